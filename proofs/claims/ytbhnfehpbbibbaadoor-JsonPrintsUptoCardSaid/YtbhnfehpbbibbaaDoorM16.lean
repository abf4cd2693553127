/- The reference's parser: escape, for every text and place. The reference's parser: text, for every text and place. The reference's parser: the plain function of number, and what number comes to. -/
import Derived.Test.YtbhnfehpbbibbaaDoorM15

namespace Go.Proofs.YtbhnfehpbbibbaaDoor
open Go.RowKit

def RTextPost (g : Nat) (s : ByteArray) (o : Option (ByteArray × Nat)) (w : World) (e : Ending) (w' : World) : Prop :=
  match o with
  | none => ∃ j, j ≤ s.size ∧ Got g s w (.string ⟨#[]⟩) j 300 e w'
  | some (t, j) => Got g s w (.string t) j 0 e w'
theorem RTextPost.no {g s o w e w' j} (h : o = none) (hj : j ≤ s.size) (q : Got g s w (.string ⟨#[]⟩) j 300 e w') : RTextPost g s o w e w' := by rw [h]; exact ⟨j, hj, q⟩
theorem RTextPost.yes {g s o w e w' t j} (h : o = some (t, j)) (q : Got g s w (.string t) j 0 e w') : RTextPost g s o w e w' := by rw [h]; exact q
theorem RTextPost.at_none {g s o w e w'} (q : RTextPost g s o w e w') (h : o = none) : ∃ j, j ≤ s.size ∧ Got g s w (.string ⟨#[]⟩) j 300 e w' := by rw [h] at q; exact q
theorem RTextPost.at_some {g s o w e w' t j} (q : RTextPost g s o w e w') (h : o = some (t, j)) : Got g s w (.string t) j 0 e w' := by rw [h] at q; exact q
theorem Got.from {g s w w1 v i c e w'} (h : Got g s w1 v i c e w') (hb : But g w w1) : Got g s w v i c e w' := ⟨h.val, h.rs, hb.trans h.but⟩

set_option maxRecDepth 100000 in
set_option maxHeartbeats 8000000 in
theorem rescape_any (g : Nat) (s : ByteArray) (i : Nat) (w : World) (hs : s.size ≤ 140737488351232) (hi : i ≤ s.size) (h : RS w g s i 0) :
    Calls Tryd.prog 51 #[.pointer (some ⟨g, 0, none⟩)] w (RTextPost g s (escS s i) w) := by
  have HP := Lib.hid h
  have p0 := h.c0
  have p1 := h.c1
  have p2 := h.f1
  clear h
  by_cases hlt : i < s.size
  case neg =>
    have HN : Hid (escS s i = none) := esc_bad (by rw [bt_out (by omega)]; omega)
    have t1 : decide ((s.size : Int) ≤ i) = true := decide_eq_true (by omega)
    go_enter Tryd.func51, Tryd.ntmps51
    go_wp2_with fail
    go_quiet (fail)
    go_wp2_with fail
    refine (rfail_first g s i 300 _ (HP.out.drewN _)).mono ?_
    rintro e w1 ⟨rfl, hp, hb⟩
    go_wp2_with fail
    go_ret
    exact RTextPost.no HN.out hi ⟨rfl, hp, (But.drewN (But.refl _ _) _).trans hb⟩
  case pos =>
    have t1 : decide ((s.size : Int) ≤ i) = false := decide_eq_false (by omega)
    have HB := Lib.hid (bt_at hlt)
    have hc1 := bt_lt s i
    rw [HB.out] at hc1
    obtain ⟨C, hC⟩ : ∃ C : Int, ((s[i]'hlt).toNat : Int) = C := ⟨_, rfl⟩
    have HC : Hid (C = bt s i) := by show _ = _; rw [HB.out, hC]
    have hC0 : 0 ≤ C := by omega
    have hC1 : C < 256 := by omega
    clear hc1
    go_enter Tryd.func51, Tryd.ntmps51
    go_wp2_with fail
    go_quiet (fail)
    go_wp2_with fail
    go_quiet (fail)
    go_wp2_with fail
    go_loopw [6] (fun v6 wr => ∃ k : Nat, v6 = .int .i64 k ∧ k ≤ 8 ∧ Hid (RS wr g s (i + 1) 0 ∧ But g w wr ∧ (0 < k → C ≠ 34) ∧ (1 < k → C ≠ 92) ∧ (2 < k → C ≠ 47) ∧ (3 < k → C ≠ 98) ∧ (4 < k → C ≠ 102) ∧ (5 < k → C ≠ 110) ∧ (6 < k → C ≠ 114) ∧ (7 < k → C ≠ 116))) (fun v6 _ => 8 - (intOf v6).toNat)
    case atStart => exact ⟨0, rfl, by omega, ⟨((HP.out.drewN _).set _ _ (by go_num)), (by (repeat' (first | (with_reducible exact But.refl _ _) | (with_reducible assumption) | (with_reducible refine But.drewN ?_ _) | (with_reducible refine But.drew ?_) | (with_reducible refine But.alloc ?_ _) | (with_reducible refine But.setOwn ?_ _ _)))), by omega, by omega, by omega, by omega, by omega, by omega, by omega, by omega⟩⟩
    case round =>
      obtain ⟨k, rfl, hk, H⟩ := hrel
      by_cases hk8 : k = 8
      case neg =>
        have hk7 : k = 0 ∨ k = 1 ∨ k = 2 ∨ k = 3 ∨ k = 4 ∨ k = 5 ∨ k = 6 ∨ k = 7 := by omega
        clear hk hk8
        rcases hk7 with rfl | rfl | rfl | rfl | rfl | rfl | rfl | rfl
        · by_cases hc : C = 34
          · subst hc
            have HE := Lib.hid (esc_same (s := s) (i := i) rfl (by have := HC.out; omega))
            have HO : Hid (oneB (bt s i) = ⟨#[34]⟩) := by
              show _ = _
              have e : bt s i = 34 := by have := HC.out; omega
              rw [e]; rfl
            clear hC
            have hcb : ((((⟨#[34, 92, 47, 98, 102, 110, 114, 116]⟩ : ByteArray)[0]'(by decide)).toNat : Int) == 34) = true := by decide
            go_wp2_with fail
            go_ret
            exact RTextPost.yes HE.out ⟨by rw [HO.out]; rfl, H.out.1, H.out.2.1⟩
          · have hcb : ((((⟨#[34, 92, 47, 98, 102, 110, 114, 116]⟩ : ByteArray)[0]'(by decide)).toNat : Int) == C) = false := beq_eq_false_iff_ne.2 (by show (34 : Int) ≠ C; omega)
            go_wp2_with fail
            go_roundw
            case rel => exact ⟨1, rfl, by omega, ⟨H.out.1, H.out.2.1, (fun _ => by have := H.out; omega), (fun _ => by have := H.out; omega), (fun _ => by have := H.out; omega), (fun _ => by have := H.out; omega), (fun _ => by have := H.out; omega), (fun _ => by have := H.out; omega), (fun _ => by have := H.out; omega), (fun _ => by have := H.out; omega)⟩⟩
            case measure => simp [intOf]
        · by_cases hc : C = 92
          · subst hc
            have HE := Lib.hid (esc_same (s := s) (i := i) rfl (by have := HC.out; omega))
            have HO : Hid (oneB (bt s i) = ⟨#[92]⟩) := by
              show _ = _
              have e : bt s i = 92 := by have := HC.out; omega
              rw [e]; rfl
            clear hC
            have hcb : ((((⟨#[34, 92, 47, 98, 102, 110, 114, 116]⟩ : ByteArray)[1]'(by decide)).toNat : Int) == 92) = true := by decide
            go_wp2_with fail
            go_ret
            exact RTextPost.yes HE.out ⟨by rw [HO.out]; rfl, H.out.1, H.out.2.1⟩
          · have hcb : ((((⟨#[34, 92, 47, 98, 102, 110, 114, 116]⟩ : ByteArray)[1]'(by decide)).toNat : Int) == C) = false := beq_eq_false_iff_ne.2 (by show (92 : Int) ≠ C; omega)
            go_wp2_with fail
            go_roundw
            case rel => exact ⟨2, rfl, by omega, ⟨H.out.1, H.out.2.1, (fun _ => by have := H.out; omega), (fun _ => by have := H.out; omega), (fun _ => by have := H.out; omega), (fun _ => by have := H.out; omega), (fun _ => by have := H.out; omega), (fun _ => by have := H.out; omega), (fun _ => by have := H.out; omega), (fun _ => by have := H.out; omega)⟩⟩
            case measure => simp [intOf]
        · by_cases hc : C = 47
          · subst hc
            have HE := Lib.hid (esc_same (s := s) (i := i) rfl (by have := HC.out; omega))
            have HO : Hid (oneB (bt s i) = ⟨#[47]⟩) := by
              show _ = _
              have e : bt s i = 47 := by have := HC.out; omega
              rw [e]; rfl
            clear hC
            have hcb : ((((⟨#[34, 92, 47, 98, 102, 110, 114, 116]⟩ : ByteArray)[2]'(by decide)).toNat : Int) == 47) = true := by decide
            go_wp2_with fail
            go_ret
            exact RTextPost.yes HE.out ⟨by rw [HO.out]; rfl, H.out.1, H.out.2.1⟩
          · have hcb : ((((⟨#[34, 92, 47, 98, 102, 110, 114, 116]⟩ : ByteArray)[2]'(by decide)).toNat : Int) == C) = false := beq_eq_false_iff_ne.2 (by show (47 : Int) ≠ C; omega)
            go_wp2_with fail
            go_roundw
            case rel => exact ⟨3, rfl, by omega, ⟨H.out.1, H.out.2.1, (fun _ => by have := H.out; omega), (fun _ => by have := H.out; omega), (fun _ => by have := H.out; omega), (fun _ => by have := H.out; omega), (fun _ => by have := H.out; omega), (fun _ => by have := H.out; omega), (fun _ => by have := H.out; omega), (fun _ => by have := H.out; omega)⟩⟩
            case measure => simp [intOf]
        · by_cases hc : C = 98
          · subst hc
            have HE := Lib.hid (esc_small (s := s) (i := i) (c := 98) ⟨#[8]⟩ (by have := HC.out; omega) (by simp))
            clear hC
            have hcb : ((((⟨#[34, 92, 47, 98, 102, 110, 114, 116]⟩ : ByteArray)[3]'(by decide)).toNat : Int) == 98) = true := by decide
            go_wp2_with fail
            go_ret
            exact RTextPost.yes HE.out ⟨rfl, H.out.1, H.out.2.1⟩
          · have hcb : ((((⟨#[34, 92, 47, 98, 102, 110, 114, 116]⟩ : ByteArray)[3]'(by decide)).toNat : Int) == C) = false := beq_eq_false_iff_ne.2 (by show (98 : Int) ≠ C; omega)
            go_wp2_with fail
            go_roundw
            case rel => exact ⟨4, rfl, by omega, ⟨H.out.1, H.out.2.1, (fun _ => by have := H.out; omega), (fun _ => by have := H.out; omega), (fun _ => by have := H.out; omega), (fun _ => by have := H.out; omega), (fun _ => by have := H.out; omega), (fun _ => by have := H.out; omega), (fun _ => by have := H.out; omega), (fun _ => by have := H.out; omega)⟩⟩
            case measure => simp [intOf]
        · by_cases hc : C = 102
          · subst hc
            have HE := Lib.hid (esc_small (s := s) (i := i) (c := 102) ⟨#[12]⟩ (by have := HC.out; omega) (by simp))
            clear hC
            have hcb : ((((⟨#[34, 92, 47, 98, 102, 110, 114, 116]⟩ : ByteArray)[4]'(by decide)).toNat : Int) == 102) = true := by decide
            go_wp2_with fail
            go_ret
            exact RTextPost.yes HE.out ⟨rfl, H.out.1, H.out.2.1⟩
          · have hcb : ((((⟨#[34, 92, 47, 98, 102, 110, 114, 116]⟩ : ByteArray)[4]'(by decide)).toNat : Int) == C) = false := beq_eq_false_iff_ne.2 (by show (102 : Int) ≠ C; omega)
            go_wp2_with fail
            go_roundw
            case rel => exact ⟨5, rfl, by omega, ⟨H.out.1, H.out.2.1, (fun _ => by have := H.out; omega), (fun _ => by have := H.out; omega), (fun _ => by have := H.out; omega), (fun _ => by have := H.out; omega), (fun _ => by have := H.out; omega), (fun _ => by have := H.out; omega), (fun _ => by have := H.out; omega), (fun _ => by have := H.out; omega)⟩⟩
            case measure => simp [intOf]
        · by_cases hc : C = 110
          · subst hc
            have HE := Lib.hid (esc_small (s := s) (i := i) (c := 110) ⟨#[10]⟩ (by have := HC.out; omega) (by simp))
            clear hC
            have hcb : ((((⟨#[34, 92, 47, 98, 102, 110, 114, 116]⟩ : ByteArray)[5]'(by decide)).toNat : Int) == 110) = true := by decide
            go_wp2_with fail
            go_ret
            exact RTextPost.yes HE.out ⟨rfl, H.out.1, H.out.2.1⟩
          · have hcb : ((((⟨#[34, 92, 47, 98, 102, 110, 114, 116]⟩ : ByteArray)[5]'(by decide)).toNat : Int) == C) = false := beq_eq_false_iff_ne.2 (by show (110 : Int) ≠ C; omega)
            go_wp2_with fail
            go_roundw
            case rel => exact ⟨6, rfl, by omega, ⟨H.out.1, H.out.2.1, (fun _ => by have := H.out; omega), (fun _ => by have := H.out; omega), (fun _ => by have := H.out; omega), (fun _ => by have := H.out; omega), (fun _ => by have := H.out; omega), (fun _ => by have := H.out; omega), (fun _ => by have := H.out; omega), (fun _ => by have := H.out; omega)⟩⟩
            case measure => simp [intOf]
        · by_cases hc : C = 114
          · subst hc
            have HE := Lib.hid (esc_small (s := s) (i := i) (c := 114) ⟨#[13]⟩ (by have := HC.out; omega) (by simp))
            clear hC
            have hcb : ((((⟨#[34, 92, 47, 98, 102, 110, 114, 116]⟩ : ByteArray)[6]'(by decide)).toNat : Int) == 114) = true := by decide
            go_wp2_with fail
            go_ret
            exact RTextPost.yes HE.out ⟨rfl, H.out.1, H.out.2.1⟩
          · have hcb : ((((⟨#[34, 92, 47, 98, 102, 110, 114, 116]⟩ : ByteArray)[6]'(by decide)).toNat : Int) == C) = false := beq_eq_false_iff_ne.2 (by show (114 : Int) ≠ C; omega)
            go_wp2_with fail
            go_roundw
            case rel => exact ⟨7, rfl, by omega, ⟨H.out.1, H.out.2.1, (fun _ => by have := H.out; omega), (fun _ => by have := H.out; omega), (fun _ => by have := H.out; omega), (fun _ => by have := H.out; omega), (fun _ => by have := H.out; omega), (fun _ => by have := H.out; omega), (fun _ => by have := H.out; omega), (fun _ => by have := H.out; omega)⟩⟩
            case measure => simp [intOf]
        · by_cases hc : C = 116
          · subst hc
            have HE := Lib.hid (esc_small (s := s) (i := i) (c := 116) ⟨#[9]⟩ (by have := HC.out; omega) (by simp))
            clear hC
            have hcb : ((((⟨#[34, 92, 47, 98, 102, 110, 114, 116]⟩ : ByteArray)[7]'(by decide)).toNat : Int) == 116) = true := by decide
            go_wp2_with fail
            go_ret
            exact RTextPost.yes HE.out ⟨rfl, H.out.1, H.out.2.1⟩
          · have hcb : ((((⟨#[34, 92, 47, 98, 102, 110, 114, 116]⟩ : ByteArray)[7]'(by decide)).toNat : Int) == C) = false := beq_eq_false_iff_ne.2 (by show (116 : Int) ≠ C; omega)
            go_wp2_with fail
            go_roundw
            case rel => exact ⟨8, rfl, by omega, ⟨H.out.1, H.out.2.1, (fun _ => by have := H.out; omega), (fun _ => by have := H.out; omega), (fun _ => by have := H.out; omega), (fun _ => by have := H.out; omega), (fun _ => by have := H.out; omega), (fun _ => by have := H.out; omega), (fun _ => by have := H.out; omega), (fun _ => by have := H.out; omega)⟩⟩
            case measure => simp [intOf]
      case pos =>
        subst hk8
        have HN8 : Hid (C ≠ 34 ∧ C ≠ 92 ∧ C ≠ 47 ∧ C ≠ 98 ∧ C ≠ 102 ∧ C ≠ 110 ∧ C ≠ 114 ∧ C ≠ 116) := by
          have := H.out
          show _ ∧ _
          omega
        have H2 : Hid (RS wr g s (i + 1) 0 ∧ But g w wr) := ⟨H.out.1, H.out.2.1⟩
        clear H hC
        by_cases c3 : C = 117
        case neg =>
          have HE := Lib.hid (esc_bad (s := s) (i := i) (by have := HC.out; have := HN8.out; omega))
          have c3b : (C != 117) = true := bne_iff_ne.2 c3
          clear c3
          go_wp2_with fail
          refine (rfail_first g s (i + 1) 300 _ H2.out.1).mono ?_
          rintro e w1 ⟨rfl, hp, hb⟩
          go_wp2_with fail
          go_ret
          exact RTextPost.no HE.out (by omega) ⟨rfl, hp, H2.out.2.trans hb⟩
        case pos =>
          subst c3
          have HU := Lib.hid (esc_u (s := s) (i := i) (by have := HC.out; omega))
          go_wp2_with fail
          refine (rhex_any g s (i + 1) 0 _ hs (by omega) H2.out.1).mono ?_
          intro e w2 hx
          have HX := Lib.hid hx
          clear hx
          cases hr : hexS s (i + 1) with
          | none =>
            have HE : Hid (escS s i = none) := by show _ = _; rw [HU.out, hr]; try rfl
            obtain ⟨rfl, hp, hb⟩ := HX.out.at_none hr
            have H3 : Hid (RS w2 g s (i + 1) 0 ∧ But g w w2) := ⟨hp, H2.out.2.trans hb⟩
            clear hp hb hr HX HU
            go_wp2_with fail
            refine (putRef_neg _ _ (by omega)).mono ?_
            rintro e w3 ⟨rfl, hb⟩
            have H4 : Hid (RS w3 g s (i + 1) 0 ∧ But g w w3) := ⟨H3.out.1.below hb, H3.out.2.trans (.below hb)⟩
            clear hb
            go_wp2_with fail
            refine (rfail_first g s (i + 1) 300 _ H4.out.1).mono ?_
            rintro e w1 ⟨rfl, hp, hb⟩
            go_wp2_with fail
            go_ret
            exact RTextPost.no HE.out (by omega) ⟨rfl, hp, H4.out.2.trans hb⟩
          | some r =>
            have ht := HX.out.at_some hr
            have hin := hexS_in hr
            have HR2 : Hid (escS s i = if 55296 ≤ r ∧ r < 56320 then (if wordB s (i + 5) ⟨#[92, 117]⟩ then (match hexS s (i + 7) with | none => none | some low => if 56320 ≤ low ∧ low ≤ 57343 then some (putS ((65536 + (r - 55296) * 1024 + (low - 56320) : Nat) : Int), i + 11) else none) else none) else if mayB r then some (putS (r : Int), i + 5) else none) := by show _ = _; rw [HU.out, hr]; try rfl
            have hrl := Lib.hid (hexS_lt hr)
            obtain ⟨R, hR⟩ : ∃ R : Int, R = r := ⟨_, rfl⟩
            have HB : Hid (But g w w2 ∧ RS w2 g s (i + 5) 0 ∧ e = .returned (.int .i64 r)) := ⟨H2.out.2.trans ht.but, ht.rs, ht.val⟩
            obtain rfl : e = .returned (.int .i64 R) := by rw [hR]; exact HB.out.2.2
            have HR := Lib.hid hR
            have hR0 : 0 ≤ R := by omega
            have hR1 : R < 65536 := by have := hrl.out; omega
            clear ht hr HX HU hR
            by_cases s1 : 55296 ≤ R ∧ R ≤ 56319
            · obtain ⟨s2, s3⟩ := s1
              go_wp2_with fail
              refine (rword_any g s ⟨#[92, 117]⟩ (i + 5) 0 _ hs (by decide) HB.out.2.1 (by omega)).mono ?_
              rintro e w3 ⟨rfl, hp, hb⟩
              have H3 : Hid (RS w3 g s (if wordB s (i + 5) ⟨#[92, 117]⟩ = true then i + 5 + (ByteArray.mk #[92, 117]).size else i + 5) 0 ∧ But g w w3) := ⟨hp, HB.out.1.trans hb⟩
              clear hp hb
              cases hwd : wordB s (i + 5) ⟨#[92, 117]⟩ with
              | false =>
                have HE : Hid (escS s i = none) := by show _ = _; rw [HR2.out, if_pos (by have := HR.out; omega), hwd]; rfl
                have H4 : Hid (RS w3 g s (i + 5) 0 ∧ But g w w3) := by have h := H3.out; rw [hwd] at h; exact h
                have HM : Hid (mayB R.toNat = false) := by show _ = _; simp only [mayB, decide_eq_false_iff_not]; omega
                clear hwd H3
                go_wp2_with fail
                refine (putRef_no _ _ (by omega) HM.out).mono ?_
                rintro e w4 ⟨rfl, hb⟩
                have H5 : Hid (RS w4 g s (i + 5) 0 ∧ But g w w4) := ⟨H4.out.1.below hb, H4.out.2.trans (.below hb)⟩
                clear hb
                go_wp2_with fail
                refine (rfail_first g s (i + 5) 300 _ H5.out.1).mono ?_
                rintro e w1 ⟨rfl, hp, hb⟩
                go_wp2_with fail
                go_ret
                exact RTextPost.no HE.out (by omega) ⟨rfl, hp, H5.out.2.trans hb⟩
              | true =>
                have hin7 : i + 7 ≤ s.size := wordB_in hwd (by omega)
                have HR3 : Hid (escS s i = (match hexS s (i + 7) with | none => none | some low => if 56320 ≤ low ∧ low ≤ 57343 then some (putS ((65536 + (r - 55296) * 1024 + (low - 56320) : Nat) : Int), i + 11) else none)) := by show _ = _; rw [HR2.out, if_pos (by have := HR.out; omega), if_pos hwd]; try rfl
                have H4 : Hid (RS w3 g s (i + 7) 0 ∧ But g w w3) := by have h := H3.out; rw [hwd] at h; exact h
                clear hwd H3
                go_wp2_with fail
                refine (rhex_any g s (i + 7) 0 _ hs (by omega) H4.out.1).mono ?_
                intro e w4 hx
                have HX := Lib.hid hx
                clear hx
                cases hr : hexS s (i + 7) with
                | none =>
                  have HE : Hid (escS s i = none) := by show _ = _; rw [HR3.out, hr]; try rfl
                  obtain ⟨rfl, hp, hb⟩ := HX.out.at_none hr
                  have H5 : Hid (RS w4 g s (i + 7) 0 ∧ But g w w4) := ⟨hp, H4.out.2.trans hb⟩
                  clear hp hb hr HX
                  go_wp2_with fail
                  refine (rfail_first g s (i + 7) 300 _ H5.out.1).mono ?_
                  rintro e w1 ⟨rfl, hp, hb⟩
                  go_wp2_with fail
                  go_ret
                  exact RTextPost.no HE.out (by omega) ⟨rfl, hp, H5.out.2.trans hb⟩
                | some low =>
                  have ht := HX.out.at_some hr
                  have hin11 := hexS_in hr
                  have HR4 : Hid (escS s i = if 56320 ≤ low ∧ low ≤ 57343 then some (putS ((65536 + (r - 55296) * 1024 + (low - 56320) : Nat) : Int), i + 11) else none) := by show _ = _; rw [HR3.out, hr]; try rfl
                  have hll := Lib.hid (hexS_lt hr)
                  obtain ⟨L, hL⟩ : ∃ L : Int, L = low := ⟨_, rfl⟩
                  have HB4 : Hid (But g w w4 ∧ RS w4 g s (i + 11) 0 ∧ e = .returned (.int .i64 low)) := ⟨H4.out.2.trans ht.but, ht.rs, ht.val⟩
                  obtain rfl : e = .returned (.int .i64 L) := by rw [hL]; exact HB4.out.2.2
                  have HL := Lib.hid hL
                  have hL0 : 0 ≤ L := by omega
                  have hL1 : L < 65536 := by have := hll.out; omega
                  clear ht hr HX hL
                  by_cases s4 : 56320 ≤ L ∧ L ≤ 57343
                  · have HE : Hid (escS s i = some (putS (65536 + (R - 55296) * 1024 + L - 56320), i + 11)) := by
                      show _ = _
                      have e1 := HL.out; have e2 := HR.out
                      have e3 : ((65536 + (r - 55296) * 1024 + (low - 56320) : Nat) : Int) = 65536 + (R - 55296) * 1024 + L - 56320 := by omega
                      rw [HR4.out, if_pos (by omega), e3]
                    have HM : Hid (mayB (65536 + (R - 55296) * 1024 + L - 56320).toNat = true) := by
                      show _ = _
                      simp only [mayB, decide_eq_true_eq]; omega
                    obtain ⟨s5, s6⟩ := s4
                    go_wp2_with fail
                    refine (putRef_yes _ _ (by omega) HM.out).mono ?_
                    rintro e w5 ⟨rfl, hb⟩
                    have H6 : Hid (RS w5 g s (i + 11) 0 ∧ But g w w5) := ⟨HB4.out.2.1.below hb, HB4.out.1.trans (.below hb)⟩
                    clear hb
                    go_wp2_with fail
                    go_ret
                    exact RTextPost.yes HE.out ⟨rfl, H6.out.1, H6.out.2⟩
                  · have HE : Hid (escS s i = none) := by show _ = _; rw [HR4.out, if_neg (by have := HL.out; omega)]
                    by_cases s5 : L < 56320
                    · clear s4
                      go_wp2_with fail
                      refine (rfail_first g s (i + 11) 300 _ HB4.out.2.1).mono ?_
                      rintro e w1 ⟨rfl, hp, hb⟩
                      go_wp2_with fail
                      go_ret
                      exact RTextPost.no HE.out (by omega) ⟨rfl, hp, HB4.out.1.trans hb⟩
                    · have s6 : 57343 < L := by omega
                      clear s4
                      go_wp2_with fail
                      refine (rfail_first g s (i + 11) 300 _ HB4.out.2.1).mono ?_
                      rintro e w1 ⟨rfl, hp, hb⟩
                      go_wp2_with fail
                      go_ret
                      exact RTextPost.no HE.out (by omega) ⟨rfl, hp, HB4.out.1.trans hb⟩
            · have HR5 : Hid (escS s i = if mayB r then some (putS (r : Int), i + 5) else none) := by show _ = _; rw [HR2.out, if_neg (by have := HR.out; omega)]
              have step : Hid (∀ m, mayB R.toNat = m → mayB r = m) := fun m h => by rw [← h, HR.out, Int.toNat_natCast]
              cases hm : mayB R.toNat with
              | true =>
                have HE : Hid (escS s i = some (putS R, i + 5)) := by show _ = _; rw [HR5.out, step.out _ hm, HR.out]; rfl
                have HM := Lib.hid hm
                clear hm
                by_cases s2 : 55296 ≤ R
                · have s3 : ¬ R ≤ 56319 := fun h => s1 ⟨s2, h⟩
                  clear s1
                  go_wp2_with fail
                  refine (putRef_yes _ _ (by omega) HM.out).mono ?_
                  rintro e w5 ⟨rfl, hb⟩
                  have H6 : Hid (RS w5 g s (i + 5) 0 ∧ But g w w5) := ⟨HB.out.2.1.below hb, HB.out.1.trans (.below hb)⟩
                  clear hb
                  go_wp2_with fail
                  go_ret
                  exact RTextPost.yes HE.out ⟨rfl, H6.out.1, H6.out.2⟩
                · clear s1
                  go_wp2_with fail
                  refine (putRef_yes _ _ (by omega) HM.out).mono ?_
                  rintro e w5 ⟨rfl, hb⟩
                  have H6 : Hid (RS w5 g s (i + 5) 0 ∧ But g w w5) := ⟨HB.out.2.1.below hb, HB.out.1.trans (.below hb)⟩
                  clear hb
                  go_wp2_with fail
                  go_ret
                  exact RTextPost.yes HE.out ⟨rfl, H6.out.1, H6.out.2⟩
              | false =>
                have HE : Hid (escS s i = none) := by show _ = _; rw [HR5.out, step.out _ hm]; rfl
                have HM := Lib.hid hm
                clear hm
                by_cases s2 : 55296 ≤ R
                · have s3 : ¬ R ≤ 56319 := fun h => s1 ⟨s2, h⟩
                  clear s1
                  go_wp2_with fail
                  refine (putRef_no _ _ (by omega) HM.out).mono ?_
                  rintro e w5 ⟨rfl, hb⟩
                  have H6 : Hid (RS w5 g s (i + 5) 0 ∧ But g w w5) := ⟨HB.out.2.1.below hb, HB.out.1.trans (.below hb)⟩
                  clear hb
                  go_wp2_with fail
                  refine (rfail_first g s (i + 5) 300 _ H6.out.1).mono ?_
                  rintro e w1 ⟨rfl, hp, hb⟩
                  go_wp2_with fail
                  go_ret
                  exact RTextPost.no HE.out (by omega) ⟨rfl, hp, H6.out.2.trans hb⟩
                · clear s1
                  go_wp2_with fail
                  refine (putRef_no _ _ (by omega) HM.out).mono ?_
                  rintro e w5 ⟨rfl, hb⟩
                  have H6 : Hid (RS w5 g s (i + 5) 0 ∧ But g w w5) := ⟨HB.out.2.1.below hb, HB.out.1.trans (.below hb)⟩
                  clear hb
                  go_wp2_with fail
                  refine (rfail_first g s (i + 5) 300 _ H6.out.1).mono ?_
                  rintro e w1 ⟨rfl, hp, hb⟩
                  go_wp2_with fail
                  go_ret
                  exact RTextPost.no HE.out (by omega) ⟨rfl, hp, H6.out.2.trans hb⟩

end Go.Proofs.YtbhnfehpbbibbaaDoor

namespace Go.Proofs.YtbhnfehpbbibbaaDoor
open Go.RowKit

theorem rune_small {s : ByteArray} {i r n : Nat} (hr : runeS s i = (r, n)) (hn : n ≠ 0) (h : r < 128) : bt s i = r ∧ n = 1 := by
  by_cases hi : i < s.size
  · by_cases hb : bt s i < 128
    · rw [runeS_1 hi hb] at hr; injection hr with h1 h2; exact ⟨h1, h2.symm⟩
    · exfalso
      unfold runeS at hr
      rw [if_pos hi] at hr
      have hcl : cls (bt s i) = 0 ∨ cls (bt s i) = 2 ∨ cls (bt s i) = 3 ∨ cls (bt s i) = 4 := by
        unfold cls; rw [if_neg hb]; (repeat' split) <;> omega
      split at hr
      · injection hr with _ h2; omega
      · unfold runeOf at hr
        split at hr
        · injection hr with _ h2; omega
        · split at hr
          · rename_i hl
            injection hr with h1 h2
            rcases hcl with e | e | e | e <;> rw [e] at hl <;> simp [leastR] at hl <;> omega
          · injection hr with _ h2; omega
  · unfold runeS at hr; rw [if_neg hi] at hr; injection hr with _ h2; omega
theorem rune_none {s : ByteArray} {i : Nat} (h : s.size ≤ i) : runeS s i = (0, 0) := by unfold runeS; rw [if_neg (by omega)]
theorem txt_fail {s : ByteArray} {k i r n : Nat} {acc : List UInt8} (hr : runeS s i = (r, n)) (hn : n = 0 ∨ r < 32) : txtF s (k + 1) i acc = none := by
  by_cases hi : i < s.size
  · by_cases h1 : bt s i < 128
    · have e := runeS_1 hi h1
      rw [e] at hr
      injection hr with a b
      exact txt_bad (by omega) (by omega) (e.trans (by rw [a, b])) hn
    · exact txt_bad (by omega) (by omega) hr hn
  · exact txt_bad (by rw [bt_out (by omega)]; omega) (by rw [bt_out (by omega)]; omega) hr hn
theorem RS.grown {w w' : World} {g s i c} {row : Option Nat} (h : RS w g s i c) (hg : w.grownBy w' row) (hr : some g ≠ row) : RS w' g s i c := (hg.block g h.lt hr).trans h

set_option maxRecDepth 100000 in
set_option maxHeartbeats 8000000 in
theorem rtext_any (g : Nat) (s : ByteArray) (i : Nat) (w : World) (hs : s.size ≤ 140737488351232) (hi : i < s.size) (h : RS w g s i 0) :
    Calls Tryd.prog 32 #[.pointer (some ⟨g, 0, none⟩)] w (RTextPost g s (txtS s (i + 1)) w) := by
  have hm : s.size ≤ maxLen := by unfold maxLen; omega
  have HP := Lib.hid h
  have p1 := h.c1
  have p2 := h.f1
  have hgl := h.lt
  clear h
  obtain ⟨i0, hinfo, hz0, hz1, hz2⟩ := info_parts uinfo
  have HT : Hid (txtS s (i + 1) = txtF s (s.size + 1 - (i + 1)) (i + 1) []) := rfl
  go_enter Tryd.func32, Tryd.ntmps32
  go_wp2_with fail
  go_loopg [3] (s.size + 1 - (i + 1)) (fun n v wr => ∃ (k : Nat) (acc : List UInt8) (c : Int), k ≤ s.size ∧ ((n = s.size + 1 - k ∧ c = 0 ∧ acc.length ≤ k ∧ Hid (txtS s (i + 1) = txtF s (s.size + 1 - k) k acc)) ∨ (n = 0 ∧ c = 300 ∧ Hid (txtS s (i + 1) = none))) ∧ Hid (RS wr g s k c ∧ But g w wr ∧ BRow wr w.heap.size v acc))
  case atStart => exact ⟨i + 1, [], 0, by omega, .inl ⟨rfl, rfl, by simp, HT.out⟩, HP.out.set _ _ (by go_num), (But.refl _ _).setOwn _ _, BRow.nil _ _⟩
  case round =>
    obtain ⟨k, acc, c, hk, hn, H⟩ := hrel
    have q0 := H.out.1.c0
    have q1 := H.out.1.c1
    have q2 := H.out.1.c2
    have q3 := H.out.1.f1
    rcases hn with ⟨hn, rfl, hacc, HT⟩ | ⟨hn, rfl, HE⟩
    case inr =>
      go_wp2_with fail
      go_ret
      exact RTextPost.no HE.out hk ⟨rfl, H.out.1, H.out.2.1⟩
    case inl =>
      have HN := Lib.hid hn
      clear hn
      have HT2 : Hid (txtS s (i + 1) = txtF s ((s.size - k) + 1) k acc) := by show _ = _; rw [HT.out, show s.size + 1 - k = (s.size - k) + 1 from by omega]
      go_wp2_with fail
      go_region_with (go_at_call 50; refine (refRune_any' s k _ hs).mono ?_; rintro e w4 ⟨r, n, rfl, Hr, hb4⟩)
      all_goals
        have H4 : Hid (RS w4 g s k 0 ∧ But g w w4) := ⟨RS.below (w := wr.drew) H.out.1 hb4, H.out.2.1.drew.trans (.below hb4)⟩
        have HR4 : Hid (BRow w4 w.heap.size u3 acc) := BRow.below (w := wr.drew) H.out.2.2 hb4
        clear q0 q1 q2 q3 hb4
        have q0 := H4.out.1.c0
        have q1 := H4.out.1.c1
        have q3 := H4.out.1.f1
        by_cases hbad : n = 0 ∨ r < 32
        · have HE : Hid (txtS s (i + 1) = none) := by show _ = _; rw [HT2.out, txt_fail Hr.out hbad]
          by_cases hn0 : n = 0
          · subst hn0
            go_wp2_with fail
            refine (rfail_first g s k 300 _ H4.out.1).mono ?_
            rintro e w6 ⟨rfl, hp, hb⟩
            have H6 : Hid (RS w6 g s k 300 ∧ But g w w6 ∧ BRow w6 w.heap.size u3 acc) := ⟨hp, H4.out.2.trans hb, HR4.out.but hb hgl⟩
            clear hp hb
            go_wp2_with fail
            go_roundg 0
            case measure => have := HN.out; omega
            case rel => exact ⟨k, acc, 300, hk, .inr ⟨rfl, rfl, HE.out⟩, H6.out⟩
          · have hn0b : ((n : Int) == 0) = false := beq_eq_false_iff_ne.2 (by omega)
            have hr32 : (r : Int) < 32 := by omega
            go_wp2_with fail
            refine (rfail_first g s k 300 _ H4.out.1).mono ?_
            rintro e w6 ⟨rfl, hp, hb⟩
            have H6 : Hid (RS w6 g s k 300 ∧ But g w w6 ∧ BRow w6 w.heap.size u3 acc) := ⟨hp, H4.out.2.trans hb, HR4.out.but hb hgl⟩
            clear hp hb
            go_wp2_with fail
            go_roundg 0
            case measure => have := HN.out; omega
            case rel => exact ⟨k, acc, 300, hk, .inr ⟨rfl, rfl, HE.out⟩, H6.out⟩
        · have hn0 : n ≠ 0 := fun e => hbad (.inl e)
          have hr32 : ¬ (r : Int) < 32 := by omega
          obtain ⟨hn1, hn4, hnk⟩ := rune_bd Hr.out hn0
          have hn0b : ((n : Int) == 0) = false := beq_eq_false_iff_ne.2 (by omega)
          have HBAD := Lib.hid hbad
          clear hbad
          by_cases d1 : r = 34
          · subst d1
            have HK : Hid (bt s k = 34) := (rune_small Hr.out hn0 (by omega)).1
            have HE : Hid (txtS s (i + 1) = some (⟨acc.toArray⟩, k + 1)) := by show _ = _; rw [HT2.out, txt_quote HK.out]
            have H6 : Hid (RS (w4.setCell ⟨g, 1, none⟩ (.int .i64 ((k : Int) + 1))) g s (k + 1) 0 ∧ But g w (w4.setCell ⟨g, 1, none⟩ (.int .i64 ((k : Int) + 1)))) := ⟨H4.out.1.set _ _ (by go_num), H4.out.2.setOwn _ _⟩
            have hconv := (HR4.out.but (But.setOwn (But.refl g _) 1 (.int .i64 ((k : Int) + 1))) hgl).text
            go_wp2_with fail
            go_ret
            exact RTextPost.yes HE.out ⟨rfl, H6.out.1, H6.out.2⟩
          · have d1b : ((r : Int) == 34) = false := beq_eq_false_iff_ne.2 (by omega)
            by_cases d2 : r = 92
            · subst d2
              have HK : Hid (bt s k = 92) := (rune_small Hr.out hn0 (by omega)).1
              have H5 : Hid (RS (w4.setCell ⟨g, 1, none⟩ (.int .i64 ((k : Int) + 1))) g s (k + 1) 0 ∧ But g w (w4.setCell ⟨g, 1, none⟩ (.int .i64 ((k : Int) + 1))) ∧ BRow (w4.setCell ⟨g, 1, none⟩ (.int .i64 ((k : Int) + 1))) w.heap.size u3 acc) :=
                ⟨H4.out.1.set _ _ (by go_num), H4.out.2.setOwn _ _, HR4.out.but (But.setOwn (But.refl g _) _ _) hgl⟩
              go_wp2_with fail
              refine (rescape_any g s (k + 1) _ hs (by omega) H5.out.1).mono ?_
              intro e w5 hx
              have HX := Lib.hid hx
              clear hx
              cases he : escS s (k + 1) with
              | none =>
                obtain ⟨j, hj, rfl, hp5, hb5⟩ := HX.out.at_none he
                have HE : Hid (txtS s (i + 1) = none) := by show _ = _; rw [HT2.out, txt_esc_no HK.out he]
                have H6 : Hid (RS w5 g s j 300 ∧ But g w w5 ∧ BRow w5 w.heap.size u3 acc) := ⟨hp5, H5.out.2.1.trans hb5, H5.out.2.2.but hb5 hgl⟩
                clear hp5 hb5 he HX
                go_wp2_with (at_builtin; refine Lib.wpList_append_own_string _ rfl _ _ 53 9 rfl w.heap.size 5 i0 Tryd.underlying53 Tryd.underlying9 hinfo hz0 hz1 hz2 _ acc.length _ rfl H6.out.2.2 ⟨#[]⟩ rfl ?c1 ?c2 ?c3 ?_)
                case c1 => have : (⟨#[]⟩ : ByteArray).size = 0 := rfl
                           unfold maxLen; omega
                case c2 => have : (⟨#[]⟩ : ByteArray).size = 0 := rfl
                           omega
                case c3 => exact H6.out.2.1.size
                intro v6 w6 hown hgr _
                have H7 : Hid (RS w6 g s j 300 ∧ But g w w6 ∧ BRow w6 w.heap.size v6 acc) := ⟨RS.grown H6.out.1 hgr (own_ne H6.out.2.2 hgl), But.grown H6.out.2.1 hgr (fun j hj => (H6.out.2.2.lt j hj).1), by simpa using BRow.app hown rfl⟩
                clear hown hgr
                go_wp2_with fail
                go_roundg 0
                case measure => have := HN.out; omega
                case rel => exact ⟨j, acc, 300, hj, .inr ⟨rfl, rfl, HE.out⟩, H7.out⟩
              | some p =>
                obtain ⟨t, j⟩ := p
                obtain ⟨hj1, hj2, hj3⟩ := escS_in he
                have HE : Hid (txtS s (i + 1) = txtF s (s.size + 1 - j) j (acc ++ t.data.toList)) := by
                  show _ = _
                  rw [HT2.out, txt_esc HK.out he]
                  exact txtF_key s _ _ _ _ (by omega) (by omega)
                obtain ⟨rfl, hp5, hb5⟩ := HX.out.at_some he
                have H6 : Hid (RS w5 g s j 0 ∧ But g w w5 ∧ BRow w5 w.heap.size u3 acc) := ⟨hp5, H5.out.2.1.trans hb5, H5.out.2.2.but hb5 hgl⟩
                clear hp5 hb5 he HX
                go_wp2_with (at_builtin; refine Lib.wpList_append_own_string _ rfl _ _ 53 9 rfl w.heap.size 5 i0 Tryd.underlying53 Tryd.underlying9 hinfo hz0 hz1 hz2 _ acc.length _ rfl H6.out.2.2 t rfl ?c1 ?c2 ?c3 ?_)
                case c1 => unfold maxLen; omega
                case c2 => omega
                case c3 => exact H6.out.2.1.size
                intro v6 w6 hown hgr _
                have H7 : Hid (RS w6 g s j 0 ∧ But g w w6 ∧ BRow w6 w.heap.size v6 (acc ++ t.data.toList)) := ⟨RS.grown H6.out.1 hgr (own_ne H6.out.2.2 hgl), But.grown H6.out.2.1 hgr (fun j hj => (H6.out.2.2.lt j hj).1), BRow.app hown rfl⟩
                clear hown hgr
                have HL : Hid ((acc ++ t.data.toList).length ≤ j) := by
                  show _ ≤ _
                  have : t.data.toList.length = t.size := rfl
                  rw [List.length_append]; omega
                go_wp2_with fail
                go_roundg (s.size + 1 - j)
                case measure => have := HN.out; omega
                case rel => exact ⟨j, _, 0, hj2, .inl ⟨rfl, rfl, HL.out, HE.out⟩, H7.out⟩
            · have HK : Hid (bt s k ≠ 34 ∧ bt s k ≠ 92) := by
                have hkl : k < s.size := by omega
                refine ⟨fun e => ?_, fun e => ?_⟩
                · have h := Hr.out; rw [runeS_1 hkl (by omega), e] at h; injection h with h; omega
                · have h := Hr.out; rw [runeS_1 hkl (by omega), e] at h; injection h with h; omega
              have d2b : ((r : Int) == 92) = false := beq_eq_false_iff_ne.2 (by omega)
              have HE : Hid (txtS s (i + 1) = txtF s (s.size + 1 - (k + n)) (k + n) (acc ++ (s.extract k (k + n)).data.toList)) := by
                show _ = _
                rw [HT2.out, txt_rune HK.out.1 HK.out.2 Hr.out HBAD.out]
                exact txtF_key s _ _ _ _ (by omega) (by omega)
              have e1 : IntKind.i64.wrap ((k : Int) + n) = (k : Int) + n := IntWalk.i64_in _ ⟨by omega, by omega⟩
              have e2 : 0 ≤ (k : Int) + n := by omega
              have e3 : ((k : Int) + n).toNat = k + n := by omega
              have e4 : (k : Int) ≤ (k : Int) + n := by omega
              have e5 : (k : Int) + n ≤ s.size := by omega
              have e6 : k + n ≤ s.size := hnk
              go_wp2_with fail
              go_still_tail 16, (by kernel_rfl)
              clear e1 e2 e3 e4 e5
              go_wp2_with (at_builtin; refine Lib.wpList_append_own_string _ rfl _ _ 53 9 rfl w.heap.size 5 i0 Tryd.underlying53 Tryd.underlying9 hinfo hz0 hz1 hz2 _ acc.length _ rfl HR4.out (s.extract k (k + n)) rfl ?c1 ?c2 ?c3 ?_)
              case c1 => rw [extract_size hnk]; unfold maxLen; omega
              case c2 => rw [extract_size hnk]; omega
              case c3 => exact H4.out.2.size
              intro v5 w5 hown hgr _
              have H5 : Hid (RS w5 g s k 0 ∧ But g w w5 ∧ BRow w5 w.heap.size v5 (acc ++ (s.extract k (k + n)).data.toList)) := ⟨RS.grown (w := w4.drew) H4.out.1 hgr (own_ne HR4.out hgl), But.grown (H4.out.2.drew) hgr (fun j hj => (HR4.out.lt j hj).1), BRow.app hown (by rw [extract_size hnk])⟩
              clear hown hgr q0 q1 q3
              have q0 := H5.out.1.c0
              have q1 := H5.out.1.c1
              have q3 := H5.out.1.f1
              have HL : Hid ((acc ++ (s.extract k (k + n)).data.toList).length ≤ k + n) := by
                show _ ≤ _
                have : (s.extract k (k + n)).data.toList.length = n := extract_size hnk
                rw [List.length_append]; omega
              have H6 : Hid (RS (w5.setCell ⟨g, 1, none⟩ (.int .i64 ((k : Int) + n))) g s (k + n) 0 ∧ But g w (w5.setCell ⟨g, 1, none⟩ (.int .i64 ((k : Int) + n))) ∧ BRow (w5.setCell ⟨g, 1, none⟩ (.int .i64 ((k : Int) + n))) w.heap.size v5 (acc ++ (s.extract k (k + n)).data.toList)) :=
                ⟨H5.out.1.set _ _ (by go_num), H5.out.2.1.setOwn _ _, H5.out.2.2.but (But.setOwn (But.refl g _) _ _) hgl⟩
              go_wp2_with fail
              go_roundg (s.size + 1 - (k + n))
              case measure => have := HN.out; omega
              case rel => exact ⟨k + n, _, 0, hnk, .inl ⟨rfl, rfl, HL.out, HE.out⟩, H6.out⟩

end Go.Proofs.YtbhnfehpbbibbaaDoor

namespace Go.Proofs.YtbhnfehpbbibbaaDoor
open Go.RowKit

/-- a point or an exponent stands here -/
def dotB (s : ByteArray) (k : Nat) : Bool := decide (bt s k = 46 ∨ bt s k = 101 ∨ bt s k = 69)
def rnumS (s : ByteArray) (i : Nat) : Option (Int × Nat) := match numS s i with | none => none | some (n, k) => if dotB s k then none else some (n, k)
theorem rnum_none {s : ByteArray} {i : Nat} (h : numS s i = none) : rnumS s i = none := by unfold rnumS; rw [h]
theorem rnum_dot {s : ByteArray} {i k : Nat} {n : Int} (h : numS s i = some (n, k)) (d : dotB s k = true) : rnumS s i = none := by unfold rnumS; rw [h]; simp only [d, if_true]
theorem rnum_ok {s : ByteArray} {i k : Nat} {n : Int} (h : numS s i = some (n, k)) (d : dotB s k = false) : rnumS s i = some (n, k) := by
  unfold rnumS; rw [h]; simp [d]
def RNumPost (g : Nat) (s : ByteArray) (o : Option (Int × Nat)) (w : World) (e : Ending) (w' : World) : Prop :=
  match o with
  | none => ∃ j, j ≤ s.size ∧ Got g s w (.int .i64 0) j 300 e w'
  | some (n, j) => Got g s w (.int .i64 n) j 0 e w'
theorem RNumPost.no {g s o w e w' j} (h : o = none) (hj : j ≤ s.size) (q : Got g s w (.int .i64 0) j 300 e w') : RNumPost g s o w e w' := by rw [h]; exact ⟨j, hj, q⟩
theorem RNumPost.yes {g s o w e w' n j} (h : o = some (n, j)) (q : Got g s w (.int .i64 n) j 0 e w') : RNumPost g s o w e w' := by rw [h]; exact q
theorem RNumPost.at_none {g s o w e w'} (q : RNumPost g s o w e w') (h : o = none) : ∃ j, j ≤ s.size ∧ Got g s w (.int .i64 0) j 300 e w' := by rw [h] at q; exact q
theorem RNumPost.at_some {g s o w e w' n j} (q : RNumPost g s o w e w') (h : o = some (n, j)) : Got g s w (.int .i64 n) j 0 e w' := by rw [h] at q; exact q
theorem num_over2 {s : ByteArray} {i f k x : Nat} (hf : f = if bt s i = 45 then i + 1 else i) (hd : digS s f 0 = digS s k x) (h : isDig (bt s k) = true) (hx : 9223372036854775808 < 10 * x + (bt s k - 48)) : numS s i = none := by
  have h1 := digS_step (x := x) (dig_in h) h
  have h2 := digF_ge s (s.size - (k + 1)) (k + 1) (10 * x + (bt s k - 48))
  have h3 : digS s f 0 = ((digS s f 0).1, (digS s f 0).2) := rfl
  rw [num_eq hf h3]
  have h4 : 9223372036854775808 < (digS s f 0).1 := by rw [hd, h1]; unfold digS; omega
  split
  · rfl
  · split
    · rw [if_neg (by omega)]
    · rw [if_neg (by omega)]
theorem word_one {s : ByteArray} {i : Nat} {c : UInt8} : wordB s i ⟨#[c]⟩ = decide (i < s.size ∧ bt s i = c.toNat) := by
  have e : bt ⟨#[c]⟩ 0 = c.toNat := rfl
  unfold wordB
  show wordN s i ⟨#[c]⟩ 1 = _
  simp only [wordN, e, Bool.true_and, Nat.add_zero]
  rw [Bool.eq_iff_iff]
  simp

end Go.Proofs.YtbhnfehpbbibbaaDoor
