/- Package json's printer: text, for every text. -/
import Derived.Test.YtbhnfehpbbibbaaDoorM10

namespace Go.Proofs.YtbhnfehpbbibbaaDoor
open Go.RowKit

def textT (s : ByteArray) : Tr := if validS s then addT (quoteS s) else failT 300
/-- what has been written of a text up to place k -/
def quoF (s : ByteArray) (k : Nat) : List UInt8 := 34 :: qAll (s.data.toList.take k)
theorem quoF_succ {s : ByteArray} {k : Nat} (h : k < s.size) : quoF s (k + 1) = quoF s k ++ qB (s[k]'h) := by
  unfold quoF
  rw [List.take_add_one, List.getElem?_eq_getElem (by exact h)]
  simp only [Option.toList_some, qAll_snoc, List.cons_append]
  rfl
theorem quoF_end (s : ByteArray) : quoteS s = quoF s s.size ++ [34] := by
  unfold quoteS quoF
  rw [List.take_of_length_le (show s.data.toList.length ≤ s.size from Nat.le_refl _), List.cons_append]
theorem quoF_mono (s : ByteArray) {a b : Nat} (h : a ≤ b) : ∃ r, quoF s b = quoF s a ++ r := by
  refine ⟨qAll ((s.data.toList.take b).drop a), ?_⟩
  have := List.take_append_drop a (s.data.toList.take b)
  rw [List.take_take, Nat.min_eq_left h] at this
  unfold quoF
  conv => lhs; rw [← this]
  unfold qAll
  rw [List.flatMap_append, List.cons_append]
/-- where a part of the text is too long, the whole is -/
theorem text_long {s : ByteArray} {o : List UInt8} {k : Nat} (hk : k ≤ s.size) (h : 65536 < o.length + (quoF s k).length) : outP o (addT (quoteS s)) = .error 302 := by
  obtain ⟨r, hr⟩ := quoF_mono s hk
  refine outP_long ?_
  show _ < o.length + (quoteS s).length
  rw [quoF_end, hr, List.length_append, List.length_append]; omega

theorem one_extract {s : ByteArray} {k : Nat} (h : k < s.size) : (s.extract k (k + 1)).data.toList = [s[k]'h] := by
  have e1 : (s.extract k (k + 1)).size = 1 := by rw [ByteArray.size_extract]; omega
  rw [ByteArray.data_extract, Array.toList_extract]
  simp only [List.extract_eq_take_drop, Nat.add_sub_cancel_left]
  rw [List.take_one, List.head?_drop]
  rw [List.getElem?_eq_getElem (by exact h)]
  rfl
def hexL : ByteArray := ⟨#[48, 49, 50, 51, 52, 53, 54, 55, 56, 57, 97, 98, 99, 100, 101, 102]⟩
theorem ctl_all : ∀ n < 32, ∀ hp : n % 16 < hexL.size, ((⟨#[92, 117, 48, 48]⟩ : ByteArray) ++ strOfNums [48 + (n : Int) / 16, ((hexL[n % 16]'hp).toNat : Int)]).data.toList = [92, 117, 48, 48, hexB (n / 16), hexB (n % 16)] := by decide +kernel
theorem num_bytes2 (c : UInt8) : (strOfNums [92, (c.toNat : Int)]).data.toList = [92, c] := by
  show [UInt8.ofNat (92 : Int).toNat, UInt8.ofNat ((c.toNat : Int)).toNat] = _
  simp

set_option maxRecDepth 100000 in
set_option maxHeartbeats 8000000 in
theorem ptext_any (g : Nat) (v : Value) (o : List UInt8) (s : ByteArray) (w : World) (h : PW w g v o) (ho : o.length ≤ 65536) (hs : s.size ≤ 140737488289792) :
    Calls Tryd.prog 39 #[.pointer (some ⟨g, 0, none⟩), .string s] w (PPost g (outP o (textT s)) w) := by
  have HP := Lib.hid h
  clear h
  have kc2 := conv_2
  cases hv : validS s with
  | false =>
    have HE : Hid (outP o (textT s) = .error 300) := by show _ = _; unfold textT; rw [hv]; exact outP_fail ho
    have HV := Lib.hid hv
    clear hv
    go_enter Tryd.func39, Tryd.ntmps39
    go_wp2_with fail
    refine (valid_any s w (by omega)).mono ?_
    rw [HV.out]
    rintro e w1 ⟨rfl, hb⟩
    have HF : Hid (PFr g w w1) := .below hb
    clear hb
    go_wp2_with fail
    refine (bad_any _).mono ?_
    rintro e w2 ⟨rfl, rfl⟩
    exact ⟨rfl, PPost.no HE.out rfl HF.out⟩
  | true =>
    have HT : Hid (outP o (textT s) = outP o (addT (quoteS s))) := by show _ = _; unfold textT; rw [hv]; rfl
    have HV := Lib.hid hv
    clear hv
    go_enter Tryd.func39, Tryd.ntmps39
    go_wp2_with fail
    refine (valid_any s w (by omega)).mono ?_
    rw [HV.out]
    rintro e w1 ⟨rfl, hb⟩
    have HF1 : Hid (PFr g w w1) := .below hb
    have HP1 := Lib.hid (HP.out.below hb)
    clear hb HP
    go_wp2_with fail
    refine (add_any g v o ⟨#[34]⟩ w1 HP1.out ho (by decide)).mono ?_
    intro e w2 hx
    have HX := Lib.hid hx
    clear hx
    by_cases hl1 : 65536 < o.length + (quoF s 0).length
    · obtain ⟨rfl, hf⟩ := HX.out.at_error (outP_long hl1)
      have HE : Hid (outP o (textT s) = .error 302) := HT.out.trans (text_long (Nat.zero_le _) hl1)
      have HF2 := Lib.hid (HF1.out.trans hf)
      exact ⟨rfl, PPost.no HE.out rfl HF2.out⟩
    obtain ⟨v2, rfl, hp2, hf2⟩ := HX.out.at_ok (outP_add hl1)
    have H2 : Hid (PW w2 g v2 (o ++ quoF s 0) ∧ PFr g w w2) := ⟨hp2, HF1.out.trans hf2⟩
    clear hp2 hf2 HX HF1 HP1
    go_wp2_with fail
    go_loopg [14] (s.size) (fun n v14 wr => ∃ (k : Nat) (vk : Value), v14 = .int .i64 k ∧ k ≤ s.size ∧ n = s.size - k ∧ Hid (o.length + (quoF s k).length ≤ 65536 ∧ PW wr g vk (o ++ quoF s k) ∧ PFr g w wr))
    case atStart => exact ⟨0, v2, rfl, Nat.zero_le _, rfl, by omega, H2.out⟩
    case round =>
      obtain ⟨k, vk, rfl, hk, hn, H⟩ := hrel
      have HN := Lib.hid hn
      clear hn
      have hok : Hid ((o ++ quoF s k).length ≤ 65536) := by have := H.out.1; show _ ≤ _; rw [List.length_append]; exact this
      by_cases hlt : k < s.size
      case neg =>
        obtain rfl : k = s.size := by omega
        go_wp2_with fail
        refine (add_any g vk _ ⟨#[34]⟩ _ H.out.2.1 hok.out (by decide)).mono ?_
        intro e w3 hx
        have HX := Lib.hid hx
        clear hx
        by_cases hl : 65536 < (o ++ quoF s s.size).length + 1
        · have HE : Hid (outP o (textT s) = .error 302) := by
            show _ = _
            rw [HT.out]
            refine outP_long ?_
            show _ < o.length + (quoteS s).length
            rw [quoF_end]; simp only [List.length_append, List.length_singleton] at hl ⊢; omega
          obtain ⟨rfl, hf⟩ := HX.out.at_error (outP_long hl)
          exact ⟨rfl, PPost.no HE.out rfl (H.out.2.2.trans hf)⟩
        · have HE : Hid (outP o (textT s) = .ok (o ++ quoF s s.size ++ [34])) := by
            show _ = _
            rw [HT.out, outP_add, quoF_end, List.append_assoc]
            rw [quoF_end]; simp only [List.length_append, List.length_singleton] at hl ⊢; omega
          obtain ⟨v3, rfl, hp3, hf3⟩ := HX.out.at_ok (outP_add hl)
          have H3 : Hid (PW w3 g v3 (o ++ quoF s s.size ++ [34]) ∧ PFr g w w3) := ⟨hp3, H.out.2.2.trans hf3⟩
          clear hp3 hf3 HX
          go_wp2_with fail
          go_end0
          exact PPost.yes HE.out rfl H3.out.1 H3.out.2
      case pos =>
        have hd : decide ((k : Int) < s.size) = true := decide_eq_true (by omega)
        have hc256 : (s[k]'hlt).toNat < 256 := UInt8.toNat_lt _
        have hq : quoF s (k + 1) = quoF s k ++ qB (s[k]'hlt) := quoF_succ hlt
        have HQ := Lib.hid hq
        clear hq
        obtain ⟨c, hc⟩ : ∃ c, c = s[k]'hlt := ⟨_, rfl⟩
        by_cases h34 : (s[k]'hlt).toNat = 34
        case pos =>
          have q34 : (((s[k]'hlt).toNat : Int) == 34) = true := by rw [h34]; rfl
          have HH := Lib.hid h34
          clear h34
          have HS : Hid ((strOfNums [92, ((s[k]'hlt).toNat : Int)] : ByteArray).data.toList = qB (s[k]'hlt)) := by show _ = _; rw [num_bytes2]; unfold qB; simp [HH.out]
          have HZ : Hid ((strOfNums [92, ((s[k]'hlt).toNat : Int)] : ByteArray).size ≤ 6) := by have := qB_len (s[k]'hlt); rw [← HS.out] at this; exact this
          go_wp2_with fail
          refine (add_any g vk _ _ _ (PW.below H.out.2.1 (by (repeat' (first | (with_reducible exact Below.refl _ _) | (with_reducible assumption) | (with_reducible refine below_drewN ?_ _) | (with_reducible refine Below.drew ?_) | (with_reducible refine Below.alloc ?_ ?_ _) | (with_reducible refine Below.setCell ?_ ?_ _) | (with_reducible exact Nat.le_refl _) | omega | (simp only [World.size_alloc, World.size_setCell, World.size_drew]; omega) | (simp; done) | (simp; omega))))) hok.out (Nat.le_trans HZ.out (by decide))).mono ?_
          intro e w3 hx
          rw [HS.out] at hx
          have HX := Lib.hid hx
          have hfr : Hid (PFr g w w3) := H.out.2.2.trans ((PFr.below (by (repeat' (first | (with_reducible exact Below.refl _ _) | (with_reducible assumption) | (with_reducible refine below_drewN ?_ _) | (with_reducible refine Below.drew ?_) | (with_reducible refine Below.alloc ?_ ?_ _) | (with_reducible refine Below.setCell ?_ ?_ _) | (with_reducible exact Nat.le_refl _) | omega | (simp only [World.size_alloc, World.size_setCell, World.size_drew]; omega) | (simp; done) | (simp; omega))))).trans hx.frame)
          clear hx
          by_cases hl : 65536 < (o ++ quoF s k).length + (qB (s[k]'hlt)).length
          · have HE : Hid (outP o (textT s) = .error 302) := by
              show _ = _
              rw [HT.out]
              refine text_long (k := k + 1) hlt ?_
              rw [HQ.out]; simp only [List.length_append] at hl ⊢; omega
            obtain ⟨rfl, _⟩ := HX.out.at_error (outP_long hl)
            exact ⟨rfl, PPost.no HE.out rfl hfr.out⟩
          · obtain ⟨v3, rfl, hp3, _⟩ := HX.out.at_ok (outP_add hl)
            rw [List.append_assoc, ← HQ.out] at hp3
            have H3 : Hid (o.length + (quoF s (k + 1)).length ≤ 65536 ∧ PW w3 g v3 (o ++ quoF s (k + 1)) ∧ PFr g w w3) := ⟨by rw [HQ.out]; simp only [List.length_append] at hl ⊢; omega, hp3, hfr.out⟩
            clear hp3 HX hfr HS HZ
            go_wp2_with fail
            go_roundg (s.size - (k + 1))
            case measure => have := HN.out; omega
            case rel => exact ⟨k + 1, v3, by go_num, by omega, rfl, H3.out⟩
        case neg =>
          by_cases h92 : (s[k]'hlt).toNat = 92
          case pos =>
            have q34 : (((s[k]'hlt).toNat : Int) == 34) = false := by exact beq_eq_false_iff_ne.2 (by omega)
            have q92 : (((s[k]'hlt).toNat : Int) == 92) = true := by rw [h92]; rfl
            have HH := Lib.hid h92
            clear h92 h34
            have HS : Hid ((strOfNums [92, ((s[k]'hlt).toNat : Int)] : ByteArray).data.toList = qB (s[k]'hlt)) := by show _ = _; rw [num_bytes2]; unfold qB; simp [HH.out]
            have HZ : Hid ((strOfNums [92, ((s[k]'hlt).toNat : Int)] : ByteArray).size ≤ 6) := by have := qB_len (s[k]'hlt); rw [← HS.out] at this; exact this
            go_wp2_with fail
            refine (add_any g vk _ _ _ (PW.below H.out.2.1 (by (repeat' (first | (with_reducible exact Below.refl _ _) | (with_reducible assumption) | (with_reducible refine below_drewN ?_ _) | (with_reducible refine Below.drew ?_) | (with_reducible refine Below.alloc ?_ ?_ _) | (with_reducible refine Below.setCell ?_ ?_ _) | (with_reducible exact Nat.le_refl _) | omega | (simp only [World.size_alloc, World.size_setCell, World.size_drew]; omega) | (simp; done) | (simp; omega))))) hok.out (Nat.le_trans HZ.out (by decide))).mono ?_
            intro e w3 hx
            rw [HS.out] at hx
            have HX := Lib.hid hx
            have hfr : Hid (PFr g w w3) := H.out.2.2.trans ((PFr.below (by (repeat' (first | (with_reducible exact Below.refl _ _) | (with_reducible assumption) | (with_reducible refine below_drewN ?_ _) | (with_reducible refine Below.drew ?_) | (with_reducible refine Below.alloc ?_ ?_ _) | (with_reducible refine Below.setCell ?_ ?_ _) | (with_reducible exact Nat.le_refl _) | omega | (simp only [World.size_alloc, World.size_setCell, World.size_drew]; omega) | (simp; done) | (simp; omega))))).trans hx.frame)
            clear hx
            by_cases hl : 65536 < (o ++ quoF s k).length + (qB (s[k]'hlt)).length
            · have HE : Hid (outP o (textT s) = .error 302) := by
                show _ = _
                rw [HT.out]
                refine text_long (k := k + 1) hlt ?_
                rw [HQ.out]; simp only [List.length_append] at hl ⊢; omega
              obtain ⟨rfl, _⟩ := HX.out.at_error (outP_long hl)
              exact ⟨rfl, PPost.no HE.out rfl hfr.out⟩
            · obtain ⟨v3, rfl, hp3, _⟩ := HX.out.at_ok (outP_add hl)
              rw [List.append_assoc, ← HQ.out] at hp3
              have H3 : Hid (o.length + (quoF s (k + 1)).length ≤ 65536 ∧ PW w3 g v3 (o ++ quoF s (k + 1)) ∧ PFr g w w3) := ⟨by rw [HQ.out]; simp only [List.length_append] at hl ⊢; omega, hp3, hfr.out⟩
              clear hp3 HX hfr HS HZ
              go_wp2_with fail
              go_roundg (s.size - (k + 1))
              case measure => have := HN.out; omega
              case rel => exact ⟨k + 1, v3, by go_num, by omega, rfl, H3.out⟩
          case neg =>
            by_cases h8 : (s[k]'hlt).toNat = 8
            case pos =>
              have q34 : (((s[k]'hlt).toNat : Int) == 34) = false := by exact beq_eq_false_iff_ne.2 (by omega)
              have q92 : (((s[k]'hlt).toNat : Int) == 92) = false := by exact beq_eq_false_iff_ne.2 (by omega)
              have q8 : (((s[k]'hlt).toNat : Int) == 8) = true := by rw [h8]; rfl
              have HH := Lib.hid h8
              clear h8 h34 h92
              have HS : Hid ((⟨#[92, 98]⟩ : ByteArray).data.toList = qB (s[k]'hlt)) := by show _ = _; unfold qB; simp [HH.out]
              have HZ : Hid ((⟨#[92, 98]⟩ : ByteArray).size ≤ 6) := by have := qB_len (s[k]'hlt); rw [← HS.out] at this; exact this
              go_wp2_with fail
              refine (add_any g vk _ _ _ (PW.below H.out.2.1 (by (repeat' (first | (with_reducible exact Below.refl _ _) | (with_reducible assumption) | (with_reducible refine below_drewN ?_ _) | (with_reducible refine Below.drew ?_) | (with_reducible refine Below.alloc ?_ ?_ _) | (with_reducible refine Below.setCell ?_ ?_ _) | (with_reducible exact Nat.le_refl _) | omega | (simp only [World.size_alloc, World.size_setCell, World.size_drew]; omega) | (simp; done) | (simp; omega))))) hok.out (Nat.le_trans HZ.out (by decide))).mono ?_
              intro e w3 hx
              rw [HS.out] at hx
              have HX := Lib.hid hx
              have hfr : Hid (PFr g w w3) := H.out.2.2.trans ((PFr.below (by (repeat' (first | (with_reducible exact Below.refl _ _) | (with_reducible assumption) | (with_reducible refine below_drewN ?_ _) | (with_reducible refine Below.drew ?_) | (with_reducible refine Below.alloc ?_ ?_ _) | (with_reducible refine Below.setCell ?_ ?_ _) | (with_reducible exact Nat.le_refl _) | omega | (simp only [World.size_alloc, World.size_setCell, World.size_drew]; omega) | (simp; done) | (simp; omega))))).trans hx.frame)
              clear hx
              by_cases hl : 65536 < (o ++ quoF s k).length + (qB (s[k]'hlt)).length
              · have HE : Hid (outP o (textT s) = .error 302) := by
                  show _ = _
                  rw [HT.out]
                  refine text_long (k := k + 1) hlt ?_
                  rw [HQ.out]; simp only [List.length_append] at hl ⊢; omega
                obtain ⟨rfl, _⟩ := HX.out.at_error (outP_long hl)
                exact ⟨rfl, PPost.no HE.out rfl hfr.out⟩
              · obtain ⟨v3, rfl, hp3, _⟩ := HX.out.at_ok (outP_add hl)
                rw [List.append_assoc, ← HQ.out] at hp3
                have H3 : Hid (o.length + (quoF s (k + 1)).length ≤ 65536 ∧ PW w3 g v3 (o ++ quoF s (k + 1)) ∧ PFr g w w3) := ⟨by rw [HQ.out]; simp only [List.length_append] at hl ⊢; omega, hp3, hfr.out⟩
                clear hp3 HX hfr HS HZ
                go_wp2_with fail
                go_roundg (s.size - (k + 1))
                case measure => have := HN.out; omega
                case rel => exact ⟨k + 1, v3, by go_num, by omega, rfl, H3.out⟩
            case neg =>
              by_cases h12 : (s[k]'hlt).toNat = 12
              case pos =>
                have q34 : (((s[k]'hlt).toNat : Int) == 34) = false := by exact beq_eq_false_iff_ne.2 (by omega)
                have q92 : (((s[k]'hlt).toNat : Int) == 92) = false := by exact beq_eq_false_iff_ne.2 (by omega)
                have q8 : (((s[k]'hlt).toNat : Int) == 8) = false := by exact beq_eq_false_iff_ne.2 (by omega)
                have q12 : (((s[k]'hlt).toNat : Int) == 12) = true := by rw [h12]; rfl
                have HH := Lib.hid h12
                clear h12 h34 h92 h8
                have HS : Hid ((⟨#[92, 102]⟩ : ByteArray).data.toList = qB (s[k]'hlt)) := by show _ = _; unfold qB; simp [HH.out]
                have HZ : Hid ((⟨#[92, 102]⟩ : ByteArray).size ≤ 6) := by have := qB_len (s[k]'hlt); rw [← HS.out] at this; exact this
                go_wp2_with fail
                refine (add_any g vk _ _ _ (PW.below H.out.2.1 (by (repeat' (first | (with_reducible exact Below.refl _ _) | (with_reducible assumption) | (with_reducible refine below_drewN ?_ _) | (with_reducible refine Below.drew ?_) | (with_reducible refine Below.alloc ?_ ?_ _) | (with_reducible refine Below.setCell ?_ ?_ _) | (with_reducible exact Nat.le_refl _) | omega | (simp only [World.size_alloc, World.size_setCell, World.size_drew]; omega) | (simp; done) | (simp; omega))))) hok.out (Nat.le_trans HZ.out (by decide))).mono ?_
                intro e w3 hx
                rw [HS.out] at hx
                have HX := Lib.hid hx
                have hfr : Hid (PFr g w w3) := H.out.2.2.trans ((PFr.below (by (repeat' (first | (with_reducible exact Below.refl _ _) | (with_reducible assumption) | (with_reducible refine below_drewN ?_ _) | (with_reducible refine Below.drew ?_) | (with_reducible refine Below.alloc ?_ ?_ _) | (with_reducible refine Below.setCell ?_ ?_ _) | (with_reducible exact Nat.le_refl _) | omega | (simp only [World.size_alloc, World.size_setCell, World.size_drew]; omega) | (simp; done) | (simp; omega))))).trans hx.frame)
                clear hx
                by_cases hl : 65536 < (o ++ quoF s k).length + (qB (s[k]'hlt)).length
                · have HE : Hid (outP o (textT s) = .error 302) := by
                    show _ = _
                    rw [HT.out]
                    refine text_long (k := k + 1) hlt ?_
                    rw [HQ.out]; simp only [List.length_append] at hl ⊢; omega
                  obtain ⟨rfl, _⟩ := HX.out.at_error (outP_long hl)
                  exact ⟨rfl, PPost.no HE.out rfl hfr.out⟩
                · obtain ⟨v3, rfl, hp3, _⟩ := HX.out.at_ok (outP_add hl)
                  rw [List.append_assoc, ← HQ.out] at hp3
                  have H3 : Hid (o.length + (quoF s (k + 1)).length ≤ 65536 ∧ PW w3 g v3 (o ++ quoF s (k + 1)) ∧ PFr g w w3) := ⟨by rw [HQ.out]; simp only [List.length_append] at hl ⊢; omega, hp3, hfr.out⟩
                  clear hp3 HX hfr HS HZ
                  go_wp2_with fail
                  go_roundg (s.size - (k + 1))
                  case measure => have := HN.out; omega
                  case rel => exact ⟨k + 1, v3, by go_num, by omega, rfl, H3.out⟩
              case neg =>
                by_cases h10 : (s[k]'hlt).toNat = 10
                case pos =>
                  have q34 : (((s[k]'hlt).toNat : Int) == 34) = false := by exact beq_eq_false_iff_ne.2 (by omega)
                  have q92 : (((s[k]'hlt).toNat : Int) == 92) = false := by exact beq_eq_false_iff_ne.2 (by omega)
                  have q8 : (((s[k]'hlt).toNat : Int) == 8) = false := by exact beq_eq_false_iff_ne.2 (by omega)
                  have q12 : (((s[k]'hlt).toNat : Int) == 12) = false := by exact beq_eq_false_iff_ne.2 (by omega)
                  have q10 : (((s[k]'hlt).toNat : Int) == 10) = true := by rw [h10]; rfl
                  have HH := Lib.hid h10
                  clear h10 h34 h92 h8 h12
                  have HS : Hid ((⟨#[92, 110]⟩ : ByteArray).data.toList = qB (s[k]'hlt)) := by show _ = _; unfold qB; simp [HH.out]
                  have HZ : Hid ((⟨#[92, 110]⟩ : ByteArray).size ≤ 6) := by have := qB_len (s[k]'hlt); rw [← HS.out] at this; exact this
                  go_wp2_with fail
                  refine (add_any g vk _ _ _ (PW.below H.out.2.1 (by (repeat' (first | (with_reducible exact Below.refl _ _) | (with_reducible assumption) | (with_reducible refine below_drewN ?_ _) | (with_reducible refine Below.drew ?_) | (with_reducible refine Below.alloc ?_ ?_ _) | (with_reducible refine Below.setCell ?_ ?_ _) | (with_reducible exact Nat.le_refl _) | omega | (simp only [World.size_alloc, World.size_setCell, World.size_drew]; omega) | (simp; done) | (simp; omega))))) hok.out (Nat.le_trans HZ.out (by decide))).mono ?_
                  intro e w3 hx
                  rw [HS.out] at hx
                  have HX := Lib.hid hx
                  have hfr : Hid (PFr g w w3) := H.out.2.2.trans ((PFr.below (by (repeat' (first | (with_reducible exact Below.refl _ _) | (with_reducible assumption) | (with_reducible refine below_drewN ?_ _) | (with_reducible refine Below.drew ?_) | (with_reducible refine Below.alloc ?_ ?_ _) | (with_reducible refine Below.setCell ?_ ?_ _) | (with_reducible exact Nat.le_refl _) | omega | (simp only [World.size_alloc, World.size_setCell, World.size_drew]; omega) | (simp; done) | (simp; omega))))).trans hx.frame)
                  clear hx
                  by_cases hl : 65536 < (o ++ quoF s k).length + (qB (s[k]'hlt)).length
                  · have HE : Hid (outP o (textT s) = .error 302) := by
                      show _ = _
                      rw [HT.out]
                      refine text_long (k := k + 1) hlt ?_
                      rw [HQ.out]; simp only [List.length_append] at hl ⊢; omega
                    obtain ⟨rfl, _⟩ := HX.out.at_error (outP_long hl)
                    exact ⟨rfl, PPost.no HE.out rfl hfr.out⟩
                  · obtain ⟨v3, rfl, hp3, _⟩ := HX.out.at_ok (outP_add hl)
                    rw [List.append_assoc, ← HQ.out] at hp3
                    have H3 : Hid (o.length + (quoF s (k + 1)).length ≤ 65536 ∧ PW w3 g v3 (o ++ quoF s (k + 1)) ∧ PFr g w w3) := ⟨by rw [HQ.out]; simp only [List.length_append] at hl ⊢; omega, hp3, hfr.out⟩
                    clear hp3 HX hfr HS HZ
                    go_wp2_with fail
                    go_roundg (s.size - (k + 1))
                    case measure => have := HN.out; omega
                    case rel => exact ⟨k + 1, v3, by go_num, by omega, rfl, H3.out⟩
                case neg =>
                  by_cases h13 : (s[k]'hlt).toNat = 13
                  case pos =>
                    have q34 : (((s[k]'hlt).toNat : Int) == 34) = false := by exact beq_eq_false_iff_ne.2 (by omega)
                    have q92 : (((s[k]'hlt).toNat : Int) == 92) = false := by exact beq_eq_false_iff_ne.2 (by omega)
                    have q8 : (((s[k]'hlt).toNat : Int) == 8) = false := by exact beq_eq_false_iff_ne.2 (by omega)
                    have q12 : (((s[k]'hlt).toNat : Int) == 12) = false := by exact beq_eq_false_iff_ne.2 (by omega)
                    have q10 : (((s[k]'hlt).toNat : Int) == 10) = false := by exact beq_eq_false_iff_ne.2 (by omega)
                    have q13 : (((s[k]'hlt).toNat : Int) == 13) = true := by rw [h13]; rfl
                    have HH := Lib.hid h13
                    clear h13 h34 h92 h8 h12 h10
                    have HS : Hid ((⟨#[92, 114]⟩ : ByteArray).data.toList = qB (s[k]'hlt)) := by show _ = _; unfold qB; simp [HH.out]
                    have HZ : Hid ((⟨#[92, 114]⟩ : ByteArray).size ≤ 6) := by have := qB_len (s[k]'hlt); rw [← HS.out] at this; exact this
                    go_wp2_with fail
                    refine (add_any g vk _ _ _ (PW.below H.out.2.1 (by (repeat' (first | (with_reducible exact Below.refl _ _) | (with_reducible assumption) | (with_reducible refine below_drewN ?_ _) | (with_reducible refine Below.drew ?_) | (with_reducible refine Below.alloc ?_ ?_ _) | (with_reducible refine Below.setCell ?_ ?_ _) | (with_reducible exact Nat.le_refl _) | omega | (simp only [World.size_alloc, World.size_setCell, World.size_drew]; omega) | (simp; done) | (simp; omega))))) hok.out (Nat.le_trans HZ.out (by decide))).mono ?_
                    intro e w3 hx
                    rw [HS.out] at hx
                    have HX := Lib.hid hx
                    have hfr : Hid (PFr g w w3) := H.out.2.2.trans ((PFr.below (by (repeat' (first | (with_reducible exact Below.refl _ _) | (with_reducible assumption) | (with_reducible refine below_drewN ?_ _) | (with_reducible refine Below.drew ?_) | (with_reducible refine Below.alloc ?_ ?_ _) | (with_reducible refine Below.setCell ?_ ?_ _) | (with_reducible exact Nat.le_refl _) | omega | (simp only [World.size_alloc, World.size_setCell, World.size_drew]; omega) | (simp; done) | (simp; omega))))).trans hx.frame)
                    clear hx
                    by_cases hl : 65536 < (o ++ quoF s k).length + (qB (s[k]'hlt)).length
                    · have HE : Hid (outP o (textT s) = .error 302) := by
                        show _ = _
                        rw [HT.out]
                        refine text_long (k := k + 1) hlt ?_
                        rw [HQ.out]; simp only [List.length_append] at hl ⊢; omega
                      obtain ⟨rfl, _⟩ := HX.out.at_error (outP_long hl)
                      exact ⟨rfl, PPost.no HE.out rfl hfr.out⟩
                    · obtain ⟨v3, rfl, hp3, _⟩ := HX.out.at_ok (outP_add hl)
                      rw [List.append_assoc, ← HQ.out] at hp3
                      have H3 : Hid (o.length + (quoF s (k + 1)).length ≤ 65536 ∧ PW w3 g v3 (o ++ quoF s (k + 1)) ∧ PFr g w w3) := ⟨by rw [HQ.out]; simp only [List.length_append] at hl ⊢; omega, hp3, hfr.out⟩
                      clear hp3 HX hfr HS HZ
                      go_wp2_with fail
                      go_roundg (s.size - (k + 1))
                      case measure => have := HN.out; omega
                      case rel => exact ⟨k + 1, v3, by go_num, by omega, rfl, H3.out⟩
                  case neg =>
                    by_cases h9 : (s[k]'hlt).toNat = 9
                    case pos =>
                      have q34 : (((s[k]'hlt).toNat : Int) == 34) = false := by exact beq_eq_false_iff_ne.2 (by omega)
                      have q92 : (((s[k]'hlt).toNat : Int) == 92) = false := by exact beq_eq_false_iff_ne.2 (by omega)
                      have q8 : (((s[k]'hlt).toNat : Int) == 8) = false := by exact beq_eq_false_iff_ne.2 (by omega)
                      have q12 : (((s[k]'hlt).toNat : Int) == 12) = false := by exact beq_eq_false_iff_ne.2 (by omega)
                      have q10 : (((s[k]'hlt).toNat : Int) == 10) = false := by exact beq_eq_false_iff_ne.2 (by omega)
                      have q13 : (((s[k]'hlt).toNat : Int) == 13) = false := by exact beq_eq_false_iff_ne.2 (by omega)
                      have q9 : (((s[k]'hlt).toNat : Int) == 9) = true := by rw [h9]; rfl
                      have HH := Lib.hid h9
                      clear h9 h34 h92 h8 h12 h10 h13
                      have HS : Hid ((⟨#[92, 116]⟩ : ByteArray).data.toList = qB (s[k]'hlt)) := by show _ = _; unfold qB; simp [HH.out]
                      have HZ : Hid ((⟨#[92, 116]⟩ : ByteArray).size ≤ 6) := by have := qB_len (s[k]'hlt); rw [← HS.out] at this; exact this
                      go_wp2_with fail
                      refine (add_any g vk _ _ _ (PW.below H.out.2.1 (by (repeat' (first | (with_reducible exact Below.refl _ _) | (with_reducible assumption) | (with_reducible refine below_drewN ?_ _) | (with_reducible refine Below.drew ?_) | (with_reducible refine Below.alloc ?_ ?_ _) | (with_reducible refine Below.setCell ?_ ?_ _) | (with_reducible exact Nat.le_refl _) | omega | (simp only [World.size_alloc, World.size_setCell, World.size_drew]; omega) | (simp; done) | (simp; omega))))) hok.out (Nat.le_trans HZ.out (by decide))).mono ?_
                      intro e w3 hx
                      rw [HS.out] at hx
                      have HX := Lib.hid hx
                      have hfr : Hid (PFr g w w3) := H.out.2.2.trans ((PFr.below (by (repeat' (first | (with_reducible exact Below.refl _ _) | (with_reducible assumption) | (with_reducible refine below_drewN ?_ _) | (with_reducible refine Below.drew ?_) | (with_reducible refine Below.alloc ?_ ?_ _) | (with_reducible refine Below.setCell ?_ ?_ _) | (with_reducible exact Nat.le_refl _) | omega | (simp only [World.size_alloc, World.size_setCell, World.size_drew]; omega) | (simp; done) | (simp; omega))))).trans hx.frame)
                      clear hx
                      by_cases hl : 65536 < (o ++ quoF s k).length + (qB (s[k]'hlt)).length
                      · have HE : Hid (outP o (textT s) = .error 302) := by
                          show _ = _
                          rw [HT.out]
                          refine text_long (k := k + 1) hlt ?_
                          rw [HQ.out]; simp only [List.length_append] at hl ⊢; omega
                        obtain ⟨rfl, _⟩ := HX.out.at_error (outP_long hl)
                        exact ⟨rfl, PPost.no HE.out rfl hfr.out⟩
                      · obtain ⟨v3, rfl, hp3, _⟩ := HX.out.at_ok (outP_add hl)
                        rw [List.append_assoc, ← HQ.out] at hp3
                        have H3 : Hid (o.length + (quoF s (k + 1)).length ≤ 65536 ∧ PW w3 g v3 (o ++ quoF s (k + 1)) ∧ PFr g w w3) := ⟨by rw [HQ.out]; simp only [List.length_append] at hl ⊢; omega, hp3, hfr.out⟩
                        clear hp3 HX hfr HS HZ
                        go_wp2_with fail
                        go_roundg (s.size - (k + 1))
                        case measure => have := HN.out; omega
                        case rel => exact ⟨k + 1, v3, by go_num, by omega, rfl, H3.out⟩
                    case neg =>
                      by_cases h32 : (s[k]'hlt).toNat < 32
                      case pos =>
                        have q34 : (((s[k]'hlt).toNat : Int) == 34) = false := by exact beq_eq_false_iff_ne.2 (by omega)
                        have q92 : (((s[k]'hlt).toNat : Int) == 92) = false := by exact beq_eq_false_iff_ne.2 (by omega)
                        have q8 : (((s[k]'hlt).toNat : Int) == 8) = false := by exact beq_eq_false_iff_ne.2 (by omega)
                        have q12 : (((s[k]'hlt).toNat : Int) == 12) = false := by exact beq_eq_false_iff_ne.2 (by omega)
                        have q10 : (((s[k]'hlt).toNat : Int) == 10) = false := by exact beq_eq_false_iff_ne.2 (by omega)
                        have q13 : (((s[k]'hlt).toNat : Int) == 13) = false := by exact beq_eq_false_iff_ne.2 (by omega)
                        have q9 : (((s[k]'hlt).toNat : Int) == 9) = false := by exact beq_eq_false_iff_ne.2 (by omega)
                        have q32 : decide (((s[k]'hlt).toNat : Int) < 32) = true := decide_eq_true (by omega)
                        have hb0 : (0 : Int) ≤ ((s[k]'hlt).toNat : Int) := by omega
                        have hb1 : ((s[k]'hlt).toNat : Int) < 32 := by omega
                        have HH : Hid ((s[k]'hlt).toNat < 32 ∧ (s[k]'hlt).toNat ≠ 34 ∧ (s[k]'hlt).toNat ≠ 92 ∧ (s[k]'hlt).toNat ≠ 8 ∧ (s[k]'hlt).toNat ≠ 12 ∧ (s[k]'hlt).toNat ≠ 10 ∧ (s[k]'hlt).toNat ≠ 13 ∧ (s[k]'hlt).toNat ≠ 9) := ⟨h32, h34, h92, h8, h12, h10, h13, h9⟩
                        clear h32 h34 h92 h8 h12 h10 h13 h9
                        have hm16 : (s[k]'hlt).toNat % 16 < 16 := by omega
                        have HS : Hid (((⟨#[92, 117, 48, 48]⟩ : ByteArray) ++ strOfNums [48 + ((s[k]'hlt).toNat : Int) / 16, (((⟨#[48, 49, 50, 51, 52, 53, 54, 55, 56, 57, 97, 98, 99, 100, 101, 102]⟩ : ByteArray)[(s[k]'hlt).toNat % 16]'hm16).toNat : Int)] : ByteArray).data.toList = qB (s[k]'hlt)) := by show _ = _; refine (ctl_all _ HH.out.1 hm16).trans ?_; unfold qB; simp [HH.out]
                        have HZ : Hid (((⟨#[92, 117, 48, 48]⟩ : ByteArray) ++ strOfNums [48 + ((s[k]'hlt).toNat : Int) / 16, (((⟨#[48, 49, 50, 51, 52, 53, 54, 55, 56, 57, 97, 98, 99, 100, 101, 102]⟩ : ByteArray)[(s[k]'hlt).toNat % 16]'hm16).toNat : Int)] : ByteArray).size ≤ 6) := by have := qB_len (s[k]'hlt); rw [← HS.out] at this; exact this
                        go_wp2_with fail
                        refine (add_any g vk _ _ _ (PW.below H.out.2.1 (by (repeat' (first | (with_reducible exact Below.refl _ _) | (with_reducible assumption) | (with_reducible refine below_drewN ?_ _) | (with_reducible refine Below.drew ?_) | (with_reducible refine Below.alloc ?_ ?_ _) | (with_reducible refine Below.setCell ?_ ?_ _) | (with_reducible exact Nat.le_refl _) | omega | (simp only [World.size_alloc, World.size_setCell, World.size_drew]; omega) | (simp; done) | (simp; omega))))) hok.out (Nat.le_trans HZ.out (by decide))).mono ?_
                        intro e w3 hx
                        rw [HS.out] at hx
                        have HX := Lib.hid hx
                        have hfr : Hid (PFr g w w3) := H.out.2.2.trans ((PFr.below (by (repeat' (first | (with_reducible exact Below.refl _ _) | (with_reducible assumption) | (with_reducible refine below_drewN ?_ _) | (with_reducible refine Below.drew ?_) | (with_reducible refine Below.alloc ?_ ?_ _) | (with_reducible refine Below.setCell ?_ ?_ _) | (with_reducible exact Nat.le_refl _) | omega | (simp only [World.size_alloc, World.size_setCell, World.size_drew]; omega) | (simp; done) | (simp; omega))))).trans hx.frame)
                        clear hx
                        by_cases hl : 65536 < (o ++ quoF s k).length + (qB (s[k]'hlt)).length
                        · have HE : Hid (outP o (textT s) = .error 302) := by
                            show _ = _
                            rw [HT.out]
                            refine text_long (k := k + 1) hlt ?_
                            rw [HQ.out]; simp only [List.length_append] at hl ⊢; omega
                          obtain ⟨rfl, _⟩ := HX.out.at_error (outP_long hl)
                          exact ⟨rfl, PPost.no HE.out rfl hfr.out⟩
                        · obtain ⟨v3, rfl, hp3, _⟩ := HX.out.at_ok (outP_add hl)
                          rw [List.append_assoc, ← HQ.out] at hp3
                          have H3 : Hid (o.length + (quoF s (k + 1)).length ≤ 65536 ∧ PW w3 g v3 (o ++ quoF s (k + 1)) ∧ PFr g w w3) := ⟨by rw [HQ.out]; simp only [List.length_append] at hl ⊢; omega, hp3, hfr.out⟩
                          clear hp3 HX hfr HS HZ
                          go_wp2_with fail
                          go_roundg (s.size - (k + 1))
                          case measure => have := HN.out; omega
                          case rel => exact ⟨k + 1, v3, by go_num, by omega, rfl, H3.out⟩
                      case neg =>
                        have q34 : (((s[k]'hlt).toNat : Int) == 34) = false := by exact beq_eq_false_iff_ne.2 (by omega)
                        have q92 : (((s[k]'hlt).toNat : Int) == 92) = false := by exact beq_eq_false_iff_ne.2 (by omega)
                        have q8 : (((s[k]'hlt).toNat : Int) == 8) = false := by exact beq_eq_false_iff_ne.2 (by omega)
                        have q12 : (((s[k]'hlt).toNat : Int) == 12) = false := by exact beq_eq_false_iff_ne.2 (by omega)
                        have q10 : (((s[k]'hlt).toNat : Int) == 10) = false := by exact beq_eq_false_iff_ne.2 (by omega)
                        have q13 : (((s[k]'hlt).toNat : Int) == 13) = false := by exact beq_eq_false_iff_ne.2 (by omega)
                        have q9 : (((s[k]'hlt).toNat : Int) == 9) = false := by exact beq_eq_false_iff_ne.2 (by omega)
                        have q32 : decide (((s[k]'hlt).toNat : Int) < 32) = false := decide_eq_false (by omega)
                        have HH : Hid (¬ (s[k]'hlt).toNat < 32 ∧ (s[k]'hlt).toNat ≠ 34 ∧ (s[k]'hlt).toNat ≠ 92 ∧ (s[k]'hlt).toNat ≠ 8 ∧ (s[k]'hlt).toNat ≠ 12 ∧ (s[k]'hlt).toNat ≠ 10 ∧ (s[k]'hlt).toNat ≠ 13 ∧ (s[k]'hlt).toNat ≠ 9) := ⟨h32, h34, h92, h8, h12, h10, h13, h9⟩
                        clear h32 h34 h92 h8 h12 h10 h13 h9
                        have HS : Hid ((s.extract k (k + 1) : ByteArray).data.toList = qB (s[k]'hlt)) := by show _ = _; rw [one_extract hlt]; unfold qB; simp [HH.out]
                        have HZ : Hid ((s.extract k (k + 1) : ByteArray).size ≤ 6) := by have := qB_len (s[k]'hlt); rw [← HS.out] at this; exact this
                        go_wp2_with fail
                        refine (add_any g vk _ _ _ (PW.below H.out.2.1 (by (repeat' (first | (with_reducible exact Below.refl _ _) | (with_reducible assumption) | (with_reducible refine below_drewN ?_ _) | (with_reducible refine Below.drew ?_) | (with_reducible refine Below.alloc ?_ ?_ _) | (with_reducible refine Below.setCell ?_ ?_ _) | (with_reducible exact Nat.le_refl _) | omega | (simp only [World.size_alloc, World.size_setCell, World.size_drew]; omega) | (simp; done) | (simp; omega))))) hok.out (Nat.le_trans HZ.out (by decide))).mono ?_
                        intro e w3 hx
                        rw [HS.out] at hx
                        have HX := Lib.hid hx
                        have hfr : Hid (PFr g w w3) := H.out.2.2.trans ((PFr.below (by (repeat' (first | (with_reducible exact Below.refl _ _) | (with_reducible assumption) | (with_reducible refine below_drewN ?_ _) | (with_reducible refine Below.drew ?_) | (with_reducible refine Below.alloc ?_ ?_ _) | (with_reducible refine Below.setCell ?_ ?_ _) | (with_reducible exact Nat.le_refl _) | omega | (simp only [World.size_alloc, World.size_setCell, World.size_drew]; omega) | (simp; done) | (simp; omega))))).trans hx.frame)
                        clear hx
                        by_cases hl : 65536 < (o ++ quoF s k).length + (qB (s[k]'hlt)).length
                        · have HE : Hid (outP o (textT s) = .error 302) := by
                            show _ = _
                            rw [HT.out]
                            refine text_long (k := k + 1) hlt ?_
                            rw [HQ.out]; simp only [List.length_append] at hl ⊢; omega
                          obtain ⟨rfl, _⟩ := HX.out.at_error (outP_long hl)
                          exact ⟨rfl, PPost.no HE.out rfl hfr.out⟩
                        · obtain ⟨v3, rfl, hp3, _⟩ := HX.out.at_ok (outP_add hl)
                          rw [List.append_assoc, ← HQ.out] at hp3
                          have H3 : Hid (o.length + (quoF s (k + 1)).length ≤ 65536 ∧ PW w3 g v3 (o ++ quoF s (k + 1)) ∧ PFr g w w3) := ⟨by rw [HQ.out]; simp only [List.length_append] at hl ⊢; omega, hp3, hfr.out⟩
                          clear hp3 HX hfr HS HZ
                          go_wp2_with fail
                          go_roundg (s.size - (k + 1))
                          case measure => have := HN.out; omega
                          case rel => exact ⟨k + 1, v3, by go_num, by omega, rfl, H3.out⟩

end Go.Proofs.YtbhnfehpbbibbaaDoor
