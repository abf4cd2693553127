/- Package json's printer: value and inner, from each other; then both at every depth. For every world. -/
import Derived.Test.YtbhnfehpbbibbaaDoorM12
import Derived.Test.YtbhnfehpbbibbaaDoorShelf
import Derived.Lib.AppendIntMem
import Derived.Lib.ItoaLen

namespace Go.Proofs.YtbhnfehpbbibbaaDoor
open Go.RowKit

def Tab (g : Nat) (w : World) : Prop := Lib.TabBelow Tryd.prog g w "internal/strconv.uint64pow10" .u64 Lib.pow10Tab
theorem Tab.on {g : Nat} {w w' : World} (h : Tab g w) (hb : Below g w w') : Tab g w' := Lib.TabBelow.on h hb
def innerT (lv : Nat) (k : Int) (l : List J) (keys : List ByteArray) : Tr :=
  match lv with
  | 0 => failT 301
  | lv + 1 =>
    if k = 5 ∧ keysB keys l.length = false then failT 300
    else (addT [if k = 5 then 123 else 91]).bind ((memT (trV lv) (decide (k = 5)) true l keys).bind (addT [if k = 5 then 125 else 93]))
theorem innerT_succ (lv : Nat) (k : Int) (l : List J) (keys : List ByteArray) : innerT (lv + 1) k l keys = if k = 5 ∧ keysB keys l.length = false then failT 300
    else (addT [if k = 5 then 123 else 91]).bind ((memT (trV lv) (decide (k = 5)) true l keys).bind (addT [if k = 5 then 125 else 93])) := rfl
theorem trV_eq (lv : Nat) (k : Int) (b : Bool) (n : Int) (s : ByteArray) (l : List J) (keys : List ByteArray) : trV lv (.mk k b n s l keys) =
    if k = 0 then addT [110, 117, 108, 108]
    else if k = 1 then (if b then addT [116, 114, 117, 101] else addT [102, 97, 108, 115, 101])
    else if k = 2 then addT (Lib.itoa n)
    else if k = 3 then textT s
    else if k = 4 ∨ k = 5 then innerT lv k l keys
    else failT 300 := by
  cases lv <;> rfl
theorem Cells.keepB {w w' : World} {b off g : Nat} {cs : List Value} (h : Cells w b off cs) (hg : b < g) (hb : Below g w w') : Cells w' b off cs := fun j u hj => by
  have h1 := h j u hj
  rw [World.cell?_of_block (w := w) (w' := w') (a := ⟨b, off + j, none⟩) (hb.block b hg)]
  exact h1
theorem JRep.keepB {w w' : World} {g : Nat} {cs : List Value} {x : J} (h : JRep w (fun k => k < g) cs x) (hb : Below g w w') : JRep w' (fun k => k < g) cs x := h.mono fun k hk _ => ⟨hk, hb.block k hk⟩
theorem RowAt.keepB {w w' : World} {g sz : Nat} {v : Value} {css : List (List Value)} (h : RowAt w (fun k => k < g) sz v css) (hsz : 0 < sz) (hb : Below g w w') : RowAt w' (fun k => k < g) sz v css := h.mono hsz fun k hk _ => ⟨hk, hb.block k hk⟩

def PInnC (lv : Nat) : Prop := ∀ (B : Nat), B ≤ 140737488289792 → ∀ (g : Nat) (v : Value) (o : List UInt8) (b off : Nat) (a0 a1 a2 a3 a4 a5 : Value) (k : Int) (q : Bool) (n : Int) (s : ByteArray) (l : List J) (keys : List ByteArray) (D : Int) (w : World),
  PW w g v o → o.length ≤ 65536 → b < g → Cells w b off [a0, a1, a2, a3, a4, a5] → JRep w (fun i => i < g) [a0, a1, a2, a3, a4, a5] (.mk k q n s l keys) → Sm B (.mk k q n s l keys) → Tab g w → (k = 4 ∨ k = 5) → D + lv = 17 →
  Calls Tryd.prog 40 #[.pointer (some ⟨g, 0, none⟩), .pointer (some ⟨b, off, none⟩), .int .i64 D] w (PPost g (outP o (innerT lv k l keys)) w)
def PValC (lv : Nat) : Prop := ∀ (B : Nat), B ≤ 140737488289792 → ∀ (g : Nat) (v : Value) (o : List UInt8) (b off : Nat) (a0 a1 a2 a3 a4 a5 : Value) (x : J) (D : Int) (w : World),
  PW w g v o → o.length ≤ 65536 → b < g → Cells w b off [a0, a1, a2, a3, a4, a5] → JRep w (fun i => i < g) [a0, a1, a2, a3, a4, a5] x → Sm B x → Tab g w → D + lv = 16 →
  Calls Tryd.prog 22 #[.pointer (some ⟨g, 0, none⟩), .pointer (some ⟨b, off, none⟩), .int .i64 D] w (PPost g (outP o (trV lv x)) w)

theorem formatBool_bytes (b : Bool) : Lib.formatBool b = if b then [116, 114, 117, 101] else [102, 97, 108, 115, 101] := by cases b <;> decide +kernel
theorem itoa_len {n : Int} (h0 : -9223372036854775808 ≤ n) (h1 : n ≤ 9223372036854775807) : (Lib.itoa n).length ≤ 21 := Lib.itoa_length_le n h0 h1

set_option maxRecDepth 100000 in
set_option maxHeartbeats 4000000 in
theorem pvalue_of (lv : Nat) (hlv : lv ≤ 16) (hin : PInnC lv) : PValC lv := by
  intro B hB g v o b off a0 a1 a2 a3 a4 a5 x D w h ho hbg hc hr hsm htab hD
  cases hsm with
  | @mk k q n s l keys hl hk hs hks hn hrec =>
    have HSM : Hid (Sm B (.mk k q n s l keys)) := .mk hl hk hs hks hn hrec
    have HR := Lib.hid hr
    have HC := Lib.hid hc
    obtain ⟨rfl, rfl, rfl, rfl, css, A1, c1, A2, c2, rfl, rfl, hcl, hL, hrc, hK⟩ := rep_parts hr
    obtain ⟨g0, g1, g2, g3, g4, g5⟩ := cells6 hc
    have HP := Lib.hid h
    have HI := Lib.hid hin
    have HT := Lib.hid htab
    have HD := Lib.hid hD
    have HN := Lib.hid hn
    have hD0 : 0 ≤ D := by omega
    have hD1 : D ≤ 16 := by omega
    have HE := Lib.hid (trV_eq lv k q n s l keys)
    clear h hin hr hc hks hn hrec hcl hL hrc hK htab hD hl hk
    by_cases hk0 : k = 0
    case pos =>
      subst hk0
      have HQ : Hid (outP o (trV lv (.mk 0 q n s l keys)) = outP o (addT (⟨#[110, 117, 108, 108]⟩ : ByteArray).data.toList)) := by show _ = _; rw [HE.out]; rfl
      go_enter Tryd.func22, Tryd.ntmps22
      go_wp2_with fail
      refine (add_any g v o ⟨#[110, 117, 108, 108]⟩ _ HP.out ho (by decide)).mono ?_
      intro e w3 hx
      rw [← HQ.out] at hx
      have HX := Lib.hid hx
      clear hx
      cases hres : outP o (trV lv (.mk 0 q n s l keys)) with
      | error c => obtain ⟨rfl, hf⟩ := HX.out.at_error hres; exact ⟨rfl, PPost.no rfl rfl (hf)⟩
      | ok o2 =>
        obtain ⟨v3, rfl, hp3, hf3⟩ := HX.out.at_ok hres
        have H3 : Hid (PW w3 g v3 o2 ∧ PFr g w w3) := ⟨hp3, hf3⟩
        have HRES := Lib.hid hres
        clear hp3 hf3 HX hres
        go_wp2_with fail
        go_end0
        exact PPost.yes HRES.out rfl H3.out.1 H3.out.2
    case neg =>
      by_cases hk1 : k = 1
      case pos =>
        subst hk1
        have HQ : Hid (outP o (trV lv (.mk 1 q n s l keys)) = outP o (addT (⟨(Lib.formatBool q).toArray⟩ : ByteArray).data.toList)) := by show _ = _; rw [HE.out, show (⟨(Lib.formatBool q).toArray⟩ : ByteArray).data.toList = Lib.formatBool q from rfl, formatBool_bytes]; cases q <;> rfl
        have HZ : Hid ((⟨(Lib.formatBool q).toArray⟩ : ByteArray).size ≤ 140737488289792) := by show _ ≤ _; rw [show (⟨(Lib.formatBool q).toArray⟩ : ByteArray).size = (Lib.formatBool q).length from rfl, formatBool_bytes]; cases q <;> decide
        go_enter Tryd.func22, Tryd.ntmps22
        go_wp2_with fail
        refine (Tryd.strconv_FormatBool q _).mono ?_
        rintro e w2 ⟨rfl, hw⟩
        replace hw := hw.symm
        subst hw
        go_wp2_with fail
        refine (add_any g v o _ _ HP.out ho HZ.out).mono ?_
        intro e w3 hx
        rw [← HQ.out] at hx
        have HX := Lib.hid hx
        clear hx
        cases hres : outP o (trV lv (.mk 1 q n s l keys)) with
        | error c => obtain ⟨rfl, hf⟩ := HX.out.at_error hres; exact ⟨rfl, PPost.no rfl rfl (hf)⟩
        | ok o2 =>
          obtain ⟨v3, rfl, hp3, hf3⟩ := HX.out.at_ok hres
          have H3 : Hid (PW w3 g v3 o2 ∧ PFr g w w3) := ⟨hp3, hf3⟩
          have HRES := Lib.hid hres
          clear hp3 hf3 HX hres
          go_wp2_with fail
          go_end0
          exact PPost.yes HRES.out rfl H3.out.1 H3.out.2
      case neg =>
        by_cases hk2 : k = 2
        case pos =>
          subst hk2
          have HQ : Hid (outP o (trV lv (.mk 2 q n s l keys)) = outP o (addT (⟨(Lib.itoa n).toArray⟩ : ByteArray).data.toList)) := by show _ = _; rw [HE.out]; rfl
          have HZ : Hid ((⟨(Lib.itoa n).toArray⟩ : ByteArray).size ≤ 140737488289792) := by have := itoa_len HN.out.1 HN.out.2; show (Lib.itoa n).length ≤ _; omega
          go_enter Tryd.func22, Tryd.ntmps22
          go_wp2_with fail
          refine (Tryd.strconv_Itoa n HN.out.1 HN.out.2 _ HT.out.here).mono ?_
          rintro e w2 ⟨rfl, kk, os, rfl⟩
          have hbl : Hid (Below w.heap.size w (Sort.grow (w.drewN kk) os)) := Lib.below_grow _ w (Nat.le_refl _) kk os
          generalize Sort.grow (w.drewN kk) os = w2 at hbl ⊢
          go_wp2_with fail
          refine (add_any g v o _ _ (HP.out.below hbl.out) ho HZ.out).mono ?_
          intro e w3 hx
          rw [← HQ.out] at hx
          have HX := Lib.hid hx
          clear hx
          cases hres : outP o (trV lv (.mk 2 q n s l keys)) with
          | error c => obtain ⟨rfl, hf⟩ := HX.out.at_error hres; exact ⟨rfl, PPost.no rfl rfl ((PFr.below hbl.out).trans hf)⟩
          | ok o2 =>
            obtain ⟨v3, rfl, hp3, hf3⟩ := HX.out.at_ok hres
            have H3 : Hid (PW w3 g v3 o2 ∧ PFr g w w3) := ⟨hp3, (PFr.below hbl.out).trans hf3⟩
            have HRES := Lib.hid hres
            clear hp3 hf3 HX hres
            go_wp2_with fail
            go_end0
            exact PPost.yes HRES.out rfl H3.out.1 H3.out.2
        case neg =>
          by_cases hk3 : k = 3
          case pos =>
            subst hk3
            have HQ : Hid (outP o (trV lv (.mk 3 q n s l keys)) = outP o (textT s)) := by show _ = _; rw [HE.out]; rfl
            go_enter Tryd.func22, Tryd.ntmps22
            go_wp2_with fail
            refine (ptext_any g v o s _ HP.out ho (by omega)).mono ?_
            intro e w3 hx
            rw [← HQ.out] at hx
            have HX := Lib.hid hx
            clear hx
            cases hres : outP o (trV lv (.mk 3 q n s l keys)) with
            | error c => obtain ⟨rfl, hf⟩ := HX.out.at_error hres; exact ⟨rfl, PPost.no rfl rfl (hf)⟩
            | ok o2 =>
              obtain ⟨v3, rfl, hp3, hf3⟩ := HX.out.at_ok hres
              have H3 : Hid (PW w3 g v3 o2 ∧ PFr g w w3) := ⟨hp3, hf3⟩
              have HRES := Lib.hid hres
              clear hp3 hf3 HX hres
              go_wp2_with fail
              go_end0
              exact PPost.yes HRES.out rfl H3.out.1 H3.out.2
          case neg =>
            by_cases hk4 : k = 4
            case pos =>
              subst hk4
              have HQ : Hid (outP o (trV lv (.mk 4 q n s l keys)) = outP o (innerT lv 4 l keys)) := by show _ = _; rw [HE.out]; rfl
              go_enter Tryd.func22, Tryd.ntmps22
              go_wp2_with fail
              refine (HI.out B hB g v o b off _ _ _ _ _ _ 4 q n s l keys (D + 1) w HP.out ho hbg HC.out HR.out HSM.out HT.out (by decide) (by have := HD.out; omega)).mono ?_
              intro e w3 hx
              rw [← HQ.out] at hx
              have HX := Lib.hid hx
              clear hx
              cases hres : outP o (trV lv (.mk 4 q n s l keys)) with
              | error c => obtain ⟨rfl, hf⟩ := HX.out.at_error hres; exact ⟨rfl, PPost.no rfl rfl (hf)⟩
              | ok o2 =>
                obtain ⟨v3, rfl, hp3, hf3⟩ := HX.out.at_ok hres
                have H3 : Hid (PW w3 g v3 o2 ∧ PFr g w w3) := ⟨hp3, hf3⟩
                have HRES := Lib.hid hres
                clear hp3 hf3 HX hres
                go_wp2_with fail
                go_end0
                exact PPost.yes HRES.out rfl H3.out.1 H3.out.2
            case neg =>
              by_cases hk5 : k = 5
              case pos =>
                subst hk5
                have HQ : Hid (outP o (trV lv (.mk 5 q n s l keys)) = outP o (innerT lv 5 l keys)) := by show _ = _; rw [HE.out]; rfl
                go_enter Tryd.func22, Tryd.ntmps22
                go_wp2_with fail
                refine (HI.out B hB g v o b off _ _ _ _ _ _ 5 q n s l keys (D + 1) w HP.out ho hbg HC.out HR.out HSM.out HT.out (by decide) (by have := HD.out; omega)).mono ?_
                intro e w3 hx
                rw [← HQ.out] at hx
                have HX := Lib.hid hx
                clear hx
                cases hres : outP o (trV lv (.mk 5 q n s l keys)) with
                | error c => obtain ⟨rfl, hf⟩ := HX.out.at_error hres; exact ⟨rfl, PPost.no rfl rfl (hf)⟩
                | ok o2 =>
                  obtain ⟨v3, rfl, hp3, hf3⟩ := HX.out.at_ok hres
                  have H3 : Hid (PW w3 g v3 o2 ∧ PFr g w w3) := ⟨hp3, hf3⟩
                  have HRES := Lib.hid hres
                  clear hp3 hf3 HX hres
                  go_wp2_with fail
                  go_end0
                  exact PPost.yes HRES.out rfl H3.out.1 H3.out.2
              case neg =>
                have HQ : Hid (outP o (trV lv (.mk k q n s l keys)) = .error 300) := by show _ = _; rw [HE.out]; simp only [hk0, hk1, hk2, hk3, hk4, hk5, or_self, if_false]; exact outP_fail ho
                have q0 : (k == 0) = false := beq_eq_false_iff_ne.2 hk0
                have q1 : (k == 1) = false := beq_eq_false_iff_ne.2 hk1
                have q2 : (k == 2) = false := beq_eq_false_iff_ne.2 hk2
                have q3 : (k == 3) = false := beq_eq_false_iff_ne.2 hk3
                have q4 : (k == 4) = false := beq_eq_false_iff_ne.2 hk4
                have q5 : (k == 5) = false := beq_eq_false_iff_ne.2 hk5
                clear hk0 hk1 hk2 hk3 hk4 hk5
                go_enter Tryd.func22, Tryd.ntmps22
                go_wp2_with fail
                refine (bad_any _).mono ?_
                rintro e w3 ⟨rfl, rfl⟩
                exact ⟨rfl, PPost.no HQ.out rfl (.refl _ _)⟩

set_option maxRecDepth 100000 in
set_option maxHeartbeats 1000000 in
theorem pinner_zero : PInnC 0 := by
  intro B hB g v o b off a0 a1 a2 a3 a4 a5 k q n s l keys D w h ho hbg hc hr hsm htab hk hD
  have hD1 : 16 < D := by omega
  have HQ : Hid (outP o (innerT 0 k l keys) = .error 301) := outP_fail ho
  clear h hc hr hsm htab hk hD
  go_enter Tryd.func40, Tryd.ntmps40
  go_wp2_with fail
  exact ⟨rfl, PPost.no HQ.out rfl (.refl _ _)⟩


/-- the round of a list's or an object's members -/
theorem mem_cons {val : J → Tr} {obj first : Bool} {l : List J} {keys : List ByteArray} {m : Nat} {x : J} (hx : l[m]? = some x) :
    memT val obj first (l.drop m) (keys.drop m) = (sepT first).bind ((keyT obj (keys.drop m)).bind ((val x).bind (memT val obj false (l.drop (m + 1)) (keys.drop (m + 1))))) := by
  have hm : m < l.length := (List.getElem?_eq_some_iff.1 hx).1
  have e1 : l.drop m = x :: l.drop (m + 1) := by
    rw [List.drop_eq_getElem_cons hm]
    rw [List.getElem?_eq_getElem hm] at hx
    injection hx with hx; rw [hx]
  rw [e1, memT, List.tail_drop]
theorem then_nil {val : J → Tr} {obj f : Bool} {ks : List ByteArray} {o : List UInt8} {c : Tr} (h : o.length ≤ 65536) : thenP (outP o (memT val obj f [] ks)) c = outP o c := by
  show thenP (outP o (addT [])) c = _
  rw [outP_add (by simp; omega), List.append_nil]; rfl
theorem then_err {o : List UInt8} {a b c : Tr} {e : Int} (h : outP o a = .error e) : thenP (outP o (a.bind b)) c = .error e := by rw [outP_bind, h]; rfl
theorem then_ok {o o' : List UInt8} {a b c : Tr} (h : outP o a = .ok o') : thenP (outP o (a.bind b)) c = thenP (outP o' b) c := by rw [outP_bind, h]; rfl
theorem keyT_obj {keys : List ByteArray} {m : Nat} {t : ByteArray} (h : keys[m]? = some t) : keyT true (keys.drop m) = (addT (quoteS t)).bind (addT [58]) := by
  have hm : m < keys.length := (List.getElem?_eq_some_iff.1 h).1
  have e1 : (keys.drop m).headD ⟨#[]⟩ = t := by
    rw [List.drop_eq_getElem_cons hm]
    rw [List.getElem?_eq_getElem hm] at h
    injection h with h
  unfold keyT
  rw [if_pos rfl, e1]; rfl


set_option maxRecDepth 100000 in
set_option maxHeartbeats 8000000 in
theorem pinner_list (lv : Nat) (hlv : lv < 16) (hval : PValC lv) (B : Nat) (hB : B ≤ 140737488289792) (g : Nat) (v : Value) (o : List UInt8) (b off : Nat) (a0 a1 a2 a3 a4 a5 : Value) (q : Bool) (n : Int) (s : ByteArray) (l : List J) (keys : List ByteArray) (D : Int) (w : World)
    (h : PW w g v o) (ho : o.length ≤ 65536) (hbg : b < g) (hc : Cells w b off [a0, a1, a2, a3, a4, a5]) (hr : JRep w (fun i => i < g) [a0, a1, a2, a3, a4, a5] (.mk 4 q n s l keys)) (hsm : Sm B (.mk 4 q n s l keys)) (htab : Tab g w) (hD : D + (lv + 1 : Nat) = 17) :
    Calls Tryd.prog 40 #[.pointer (some ⟨g, 0, none⟩), .pointer (some ⟨b, off, none⟩), .int .i64 D] w (PPost g (outP o (innerT (lv + 1) 4 l keys)) w) := by
  cases hsm with
  | mk hl hk hs hks hn hrec =>
    have HR := Lib.hid hr
    have HC := Lib.hid hc
    obtain ⟨rfl, rfl, rfl, rfl, css, A1, c1, A2, c2, rfl, rfl, hcl, hL, hrc, hK⟩ := rep_parts hr
    obtain ⟨g0, g1, g2, g3, g4, g5⟩ := cells6 hc
    have HP := Lib.hid h
    have HI := Lib.hid hval
    have HT := Lib.hid htab
    have HD := Lib.hid hD
    have HL := Lib.hid hL
    have HK := Lib.hid hK
    have HRC := Lib.hid hrc
    have HCL := Lib.hid hcl
    have HREC := Lib.hid hrec
    have HKS := Lib.hid hks
    have hgl := h.lt
    have hD0 : 0 ≤ D := by omega
    have hD1 : D ≤ 16 := by omega
    clear hval hr hc hks hn hrec hcl hL hrc hK htab hD g1 g2 g3
    have HQ0 : Hid (innerT (lv + 1) 4 l keys = (addT [91]).bind ((memT (trV lv) false true l keys).bind (addT [93]))) := by show _ = _; rw [innerT_succ, if_neg (show ¬ ((4 : Int) = 5 ∧ keysB keys l.length = false) from fun h => absurd h.1 (by decide))]; rfl
    have HP1 := HP
    have HF1 : Hid (PFr g w w) := .refl _ _
    clear h
    go_enter Tryd.func40, Tryd.ntmps40
    go_wp2_with fail
    refine (add_any g v o ⟨#[91]⟩ _ HP1.out ho (by decide)).mono ?_
    intro e w2 hx
    have HX := Lib.hid hx
    clear hx
    by_cases hl1 : 65536 < o.length + 1
    · have HE : Hid (outP o (innerT (lv + 1) 4 l keys) = .error 302) := by show _ = _; rw [HQ0.out, outP_bind, outP_long hl1]; rfl
      obtain ⟨rfl, hf⟩ := HX.out.at_error (outP_long hl1)
      exact ⟨rfl, PPost.no HE.out rfl (HF1.out.trans hf)⟩
    obtain ⟨v2, rfl, hp2, hf2⟩ := HX.out.at_ok (outP_add hl1)
    have H2 : Hid ((o ++ [91]).length ≤ 65536 ∧ PW w2 g v2 (o ++ [91]) ∧ PFr g w w2 ∧ outP o (innerT (lv + 1) 4 l keys) = thenP (outP (o ++ [91]) (memT (trV lv) false (decide (0 = 0)) (l.drop 0) (keys.drop 0))) (addT [93])) :=
      ⟨by rw [List.length_append]; simp; omega, hp2, HF1.out.trans hf2, by rw [HQ0.out, outP_bind, outP_add hl1, ← outP_bind]; rfl⟩
    have hbl2 : Below g w w2 := H2.out.2.2.1.toBelow (by omega)
    have g4' := HC.out.keepB hbg hbl2 4 _ rfl
    clear hp2 hf2 HX HP1 HF1 hl1 g0 g4 g5 hbl2
    go_wp2_with fail
    go_loopg [28] (l.length) (fun nn v28 wr => ∃ (m : Nat) (vm : Value) (om : List UInt8), v28 = .int .i64 m ∧ m ≤ l.length ∧ nn = l.length - m ∧ Hid (om.length ≤ 65536 ∧ PW wr g vm om ∧ PFr g w wr ∧ outP o (innerT (lv + 1) 4 l keys) = thenP (outP om (memT (trV lv) false (decide (m = 0)) (l.drop m) (keys.drop m))) (addT [93])))
    case atStart => exact ⟨0, v2, _, rfl, Nat.zero_le _, rfl, H2.out⟩
    case round =>
      obtain ⟨m, vm, om, rfl, hm, hn, H⟩ := hrel
      have HN := Lib.hid hn
      clear hn H2 g4'
      have hbl := H.out.2.2.1.toBelow (Nat.le_of_lt hgl)
      have HBL := Lib.hid hbl
      obtain ⟨k0, k1, k2, k3, k4, k5⟩ := cells6 (HC.out.keepB hbg hbl)
      clear k1 k2 k3 hbl
      by_cases hml : m < l.length
      case neg =>
        obtain rfl : m = l.length := by omega
        have HE : Hid (outP o (innerT (lv + 1) 4 l keys) = outP om (addT [93])) := by show _ = _; rw [H.out.2.2.2, List.drop_length]; exact then_nil H.out.1
        go_wp2_with fail
        refine (add_any g vm om ⟨#[93]⟩ _ H.out.2.1 H.out.1 (by decide)).mono ?_
        intro e w3 hx
        rw [← HE.out] at hx
        have HX := Lib.hid hx
        clear hx
        cases hres : outP o (innerT (lv + 1) 4 l keys) with
        | error c => obtain ⟨rfl, hf⟩ := HX.out.at_error hres; exact ⟨rfl, PPost.no rfl rfl (H.out.2.2.1.trans hf)⟩
        | ok o2 =>
          obtain ⟨v3, rfl, hp3, hf3⟩ := HX.out.at_ok hres
          have H3 : Hid (PW w3 g v3 o2 ∧ PFr g w w3) := ⟨hp3, H.out.2.2.1.trans hf3⟩
          have HRES := Lib.hid hres
          clear hp3 hf3 HX hres
          go_wp2_with fail
          go_end0
          exact PPost.yes HRES.out rfl H3.out.1 H3.out.2
      case pos =>
        obtain ⟨x, hx⟩ : ∃ t, l[m]? = some t := ⟨_, List.getElem?_eq_getElem hml⟩
        obtain ⟨cs, hcs⟩ : ∃ t, css[m]? = some t := ⟨_, List.getElem?_eq_getElem (by have := HCL.out; omega)⟩
        obtain ⟨b1, o1, rfl, hb1g, _, hc1⟩ := HL.out.elem hcs
        have hr1 := HRC.out m cs x hcs hx
        obtain ⟨x0, x1, x2, x3, x4, x5, rfl⟩ := hr1.six
        have HC1 := Lib.hid hc1
        have HR1 := Lib.hid hr1
        have HSM := Lib.hid (HREC.out m x hx)
        have HMC := Lib.hid (mem_cons (val := trV lv) (obj := false) (first := decide (m = 0)) (keys := keys) hx)
        clear hc1 hr1 hcs hx
        by_cases hm0 : m = 0
        case pos =>
          have hd0 : ¬ 0 < m := by omega
          have HEQ : Hid (outP o (innerT (lv + 1) 4 l keys) = thenP (outP om ((trV lv x).bind (memT (trV lv) false false (l.drop (m + 1)) (keys.drop (m + 1))))) (addT [93])) := by show _ = _; rw [H.out.2.2.2, HMC.out, decide_eq_true hm0]; rfl
          have HBL2 := HBL
          clear hm0 k0 k4 k5
          have hblk := HBL2.out
          obtain ⟨kk0, kk1, kk2, kk3, kk4, kk5⟩ := cells6 (HC.out.keepB hbg hblk)
          clear hblk kk1 kk2 kk3 kk5
          go_wp2_with fail
          refine (HI.out B hB g vm om b1 (o1 + m * 6) x0 x1 x2 x3 x4 x5 x D _ H.out.2.1 H.out.1 hb1g (HC1.out.keepB hb1g HBL2.out) (HR1.out.keepB HBL2.out) HSM.out (HT.out.on HBL2.out) (by have := HD.out; omega)).mono ?_
          intro e wx hx
          have HX := Lib.hid hx
          clear hx
          cases hres : outP om (trV lv x) with
          | error c => obtain ⟨rfl, hf⟩ := HX.out.at_error hres; exact ⟨rfl, PPost.no ((HEQ.out).trans (then_err hres)) rfl ((H.out.2.2.1).trans hf)⟩
          | ok ox =>
            obtain ⟨vx, rfl, hpx, hfx⟩ := HX.out.at_ok hres
            have HY : Hid (ox.length ≤ 65536 ∧ PW wx g vx ox ∧ PFr g w wx ∧ outP o (innerT (lv + 1) 4 l keys) = thenP (outP ox (memT (trV lv) false (decide (m + 1 = 0)) (l.drop (m + 1)) (keys.drop (m + 1)))) (addT [93])) :=
              ⟨outP_len hres, hpx, (H.out.2.2.1).trans hfx, (HEQ.out).trans (then_ok hres)⟩
            clear hpx hfx HX hres
            go_wp2_with fail
            go_roundg (l.length - (m + 1))
            case measure => have := HN.out; omega
            case rel => exact ⟨m + 1, vx, ox, by go_num, by omega, rfl, HY.out⟩
        case neg =>
          have hd0 : 0 < m := by omega
          have HEQ0 : Hid (outP o (innerT (lv + 1) 4 l keys) = thenP (outP om ((addT [44]).bind ((trV lv x).bind (memT (trV lv) false false (l.drop (m + 1)) (keys.drop (m + 1)))))) (addT [93])) := by show _ = _; rw [H.out.2.2.2, HMC.out, decide_eq_false hm0]; rfl
          go_wp2_with fail
          refine (add_any g vm om ⟨#[44]⟩ _ H.out.2.1 H.out.1 (by decide)).mono ?_
          intro e wc hx
          have HX := Lib.hid hx
          clear hx
          cases hres : outP om (addT [44]) with
          | error c => obtain ⟨rfl, hf⟩ := HX.out.at_error hres; exact ⟨rfl, PPost.no (HEQ0.out.trans (then_err hres)) rfl (H.out.2.2.1.trans hf)⟩
          | ok oc =>
            obtain ⟨vc, rfl, hpc, hfc⟩ := HX.out.at_ok hres
            have HS : Hid (oc.length ≤ 65536 ∧ PW wc g vc oc ∧ PFr g w wc ∧ outP o (innerT (lv + 1) 4 l keys) = thenP (outP oc ((trV lv x).bind (memT (trV lv) false false (l.drop (m + 1)) (keys.drop (m + 1))))) (addT [93])) := ⟨outP_len hres, hpc, H.out.2.2.1.trans hfc, HEQ0.out.trans (then_ok hres)⟩
            have HBL2 := Lib.hid (HS.out.2.2.1.toBelow (Nat.le_of_lt hgl))
            clear hpc hfc HX hres k0 k4 k5
            have hblk := HBL2.out
            obtain ⟨kk0, kk1, kk2, kk3, kk4, kk5⟩ := cells6 (HC.out.keepB hbg hblk)
            clear hblk kk1 kk2 kk3 kk5
            go_wp2_with fail
            refine (HI.out B hB g vc oc b1 (o1 + m * 6) x0 x1 x2 x3 x4 x5 x D _ HS.out.2.1 HS.out.1 hb1g (HC1.out.keepB hb1g HBL2.out) (HR1.out.keepB HBL2.out) HSM.out (HT.out.on HBL2.out) (by have := HD.out; omega)).mono ?_
            intro e wx hx
            have HX := Lib.hid hx
            clear hx
            cases hres : outP oc (trV lv x) with
            | error c => obtain ⟨rfl, hf⟩ := HX.out.at_error hres; exact ⟨rfl, PPost.no ((HS.out.2.2.2).trans (then_err hres)) rfl ((HS.out.2.2.1).trans hf)⟩
            | ok ox =>
              obtain ⟨vx, rfl, hpx, hfx⟩ := HX.out.at_ok hres
              have HY : Hid (ox.length ≤ 65536 ∧ PW wx g vx ox ∧ PFr g w wx ∧ outP o (innerT (lv + 1) 4 l keys) = thenP (outP ox (memT (trV lv) false (decide (m + 1 = 0)) (l.drop (m + 1)) (keys.drop (m + 1)))) (addT [93])) :=
                ⟨outP_len hres, hpx, (HS.out.2.2.1).trans hfx, (HS.out.2.2.2).trans (then_ok hres)⟩
              clear hpx hfx HX hres
              go_wp2_with fail
              go_roundg (l.length - (m + 1))
              case measure => have := HN.out; omega
              case rel => exact ⟨m + 1, vx, ox, by go_num, by omega, rfl, HY.out⟩

set_option maxRecDepth 100000 in
set_option maxHeartbeats 8000000 in
theorem pinner_obj (lv : Nat) (hlv : lv < 16) (hval : PValC lv) (B : Nat) (hB : B ≤ 140737488289792) (g : Nat) (v : Value) (o : List UInt8) (b off : Nat) (a0 a1 a2 a3 a4 a5 : Value) (q : Bool) (n : Int) (s : ByteArray) (l : List J) (keys : List ByteArray) (D : Int) (w : World)
    (h : PW w g v o) (ho : o.length ≤ 65536) (hbg : b < g) (hc : Cells w b off [a0, a1, a2, a3, a4, a5]) (hr : JRep w (fun i => i < g) [a0, a1, a2, a3, a4, a5] (.mk 5 q n s l keys)) (hsm : Sm B (.mk 5 q n s l keys)) (htab : Tab g w) (hD : D + (lv + 1 : Nat) = 17) :
    Calls Tryd.prog 40 #[.pointer (some ⟨g, 0, none⟩), .pointer (some ⟨b, off, none⟩), .int .i64 D] w (PPost g (outP o (innerT (lv + 1) 5 l keys)) w) := by
  cases hsm with
  | mk hl hk hs hks hn hrec =>
    have HR := Lib.hid hr
    have HC := Lib.hid hc
    obtain ⟨rfl, rfl, rfl, rfl, css, A1, c1, A2, c2, rfl, rfl, hcl, hL, hrc, hK⟩ := rep_parts hr
    obtain ⟨g0, g1, g2, g3, g4, g5⟩ := cells6 hc
    have HP := Lib.hid h
    have HI := Lib.hid hval
    have HT := Lib.hid htab
    have HD := Lib.hid hD
    have HL := Lib.hid hL
    have HK := Lib.hid hK
    have HRC := Lib.hid hrc
    have HCL := Lib.hid hcl
    have HREC := Lib.hid hrec
    have HKS := Lib.hid hks
    have hgl := h.lt
    have hD0 : 0 ≤ D := by omega
    have hD1 : D ≤ 16 := by omega
    clear hval hr hc hks hn hrec hcl hL hrc hK htab hD g1 g2 g3
    cases hkb : keysB keys l.length with
    | false =>
      have HQ : Hid (outP o (innerT (lv + 1) 5 l keys) = .error 300) := by show _ = _; rw [innerT_succ, if_pos ⟨rfl, hkb⟩]; exact outP_fail ho
      have HKB := Lib.hid hkb
      clear hkb h
      go_enter Tryd.func40, Tryd.ntmps40
      go_wp2_with fail
      refine (pkeys_any B hB b off _ _ _ _ _ _ 5 q n s l keys w _ HC.out HR.out hl hk HKS.out).mono ?_
      intro e w1 hx
      unfold KPost at hx
      rw [HKB.out] at hx
      obtain ⟨rfl, hb⟩ := hx
      exact ⟨rfl, PPost.no HQ.out rfl (.below hb)⟩
    | true =>
      have HV : Hid (∀ (i : Nat) (t : ByteArray), keys[i]? = some t → validS t = true) := fun i t ht => keysF_valid (by rw [← hkb]; unfold keysB; unfold keysB at hkb; rw [Bool.and_eq_true] at hkb; rw [hkb.1, Bool.true_and]) ht
      have hkl : keys.length = l.length := by unfold keysB at hkb; rw [Bool.and_eq_true] at hkb; exact of_decide_eq_true hkb.1
      have HKL := Lib.hid hkl
      have HKB := Lib.hid hkb
      have HQ0 : Hid (innerT (lv + 1) 5 l keys = (addT [123]).bind ((memT (trV lv) true true l keys).bind (addT [125]))) := by show _ = _; rw [innerT_succ, if_neg (show ¬ ((5 : Int) = 5 ∧ keysB keys l.length = false) from by rw [hkb]; exact fun h => absurd h.2 (by decide))]; rfl
      clear hkb hkl h
      go_enter Tryd.func40, Tryd.ntmps40
      go_wp2_with fail
      refine (pkeys_any B hB b off _ _ _ _ _ _ 5 q n s l keys w _ HC.out HR.out hl hk HKS.out).mono ?_
      intro e w1 hx
      unfold KPost at hx
      rw [HKB.out] at hx
      obtain ⟨rfl, hb⟩ := hx
      have HB1 := Lib.hid hb
      have HP1 := Lib.hid (HP.out.below hb)
      have HF1 : Hid (PFr g w w1) := .below hb
      clear hb
      go_wp2_with fail
      refine (add_any g v o ⟨#[123]⟩ _ HP1.out ho (by decide)).mono ?_
      intro e w2 hx
      have HX := Lib.hid hx
      clear hx
      by_cases hl1 : 65536 < o.length + 1
      · have HE : Hid (outP o (innerT (lv + 1) 5 l keys) = .error 302) := by show _ = _; rw [HQ0.out, outP_bind, outP_long hl1]; rfl
        obtain ⟨rfl, hf⟩ := HX.out.at_error (outP_long hl1)
        exact ⟨rfl, PPost.no HE.out rfl (HF1.out.trans hf)⟩
      obtain ⟨v2, rfl, hp2, hf2⟩ := HX.out.at_ok (outP_add hl1)
      have H2 : Hid ((o ++ [123]).length ≤ 65536 ∧ PW w2 g v2 (o ++ [123]) ∧ PFr g w w2 ∧ outP o (innerT (lv + 1) 5 l keys) = thenP (outP (o ++ [123]) (memT (trV lv) true (decide (0 = 0)) (l.drop 0) (keys.drop 0))) (addT [125])) :=
        ⟨by rw [List.length_append]; simp; omega, hp2, HF1.out.trans hf2, by rw [HQ0.out, outP_bind, outP_add hl1, ← outP_bind]; rfl⟩
      have hbl2 : Below g w w2 := H2.out.2.2.1.toBelow (by omega)
      have g4' := HC.out.keepB hbg hbl2 4 _ rfl
      clear hp2 hf2 HX HP1 HF1 hl1 g0 g4 g5 hbl2
      go_wp2_with fail
      go_loopg [28] (l.length) (fun nn v28 wr => ∃ (m : Nat) (vm : Value) (om : List UInt8), v28 = .int .i64 m ∧ m ≤ l.length ∧ nn = l.length - m ∧ Hid (om.length ≤ 65536 ∧ PW wr g vm om ∧ PFr g w wr ∧ outP o (innerT (lv + 1) 5 l keys) = thenP (outP om (memT (trV lv) true (decide (m = 0)) (l.drop m) (keys.drop m))) (addT [125])))
      case atStart => exact ⟨0, v2, _, rfl, Nat.zero_le _, rfl, H2.out⟩
      case round =>
        obtain ⟨m, vm, om, rfl, hm, hn, H⟩ := hrel
        have HN := Lib.hid hn
        clear hn H2 g4'
        have hbl := H.out.2.2.1.toBelow (Nat.le_of_lt hgl)
        have HBL := Lib.hid hbl
        obtain ⟨k0, k1, k2, k3, k4, k5⟩ := cells6 (HC.out.keepB hbg hbl)
        clear k1 k2 k3 hbl
        by_cases hml : m < l.length
        case neg =>
          obtain rfl : m = l.length := by omega
          have HE : Hid (outP o (innerT (lv + 1) 5 l keys) = outP om (addT [125])) := by show _ = _; rw [H.out.2.2.2, List.drop_length]; exact then_nil H.out.1
          go_wp2_with fail
          refine (add_any g vm om ⟨#[125]⟩ _ H.out.2.1 H.out.1 (by decide)).mono ?_
          intro e w3 hx
          rw [← HE.out] at hx
          have HX := Lib.hid hx
          clear hx
          cases hres : outP o (innerT (lv + 1) 5 l keys) with
          | error c => obtain ⟨rfl, hf⟩ := HX.out.at_error hres; exact ⟨rfl, PPost.no rfl rfl (H.out.2.2.1.trans hf)⟩
          | ok o2 =>
            obtain ⟨v3, rfl, hp3, hf3⟩ := HX.out.at_ok hres
            have H3 : Hid (PW w3 g v3 o2 ∧ PFr g w w3) := ⟨hp3, H.out.2.2.1.trans hf3⟩
            have HRES := Lib.hid hres
            clear hp3 hf3 HX hres
            go_wp2_with fail
            go_end0
            exact PPost.yes HRES.out rfl H3.out.1 H3.out.2
        case pos =>
          obtain ⟨x, hx⟩ : ∃ t, l[m]? = some t := ⟨_, List.getElem?_eq_getElem hml⟩
          obtain ⟨cs, hcs⟩ : ∃ t, css[m]? = some t := ⟨_, List.getElem?_eq_getElem (by have := HCL.out; omega)⟩
          obtain ⟨b1, o1, rfl, hb1g, _, hc1⟩ := HL.out.elem hcs
          have hr1 := HRC.out m cs x hcs hx
          obtain ⟨x0, x1, x2, x3, x4, x5, rfl⟩ := hr1.six
          have HC1 := Lib.hid hc1
          have HR1 := Lib.hid hr1
          have HSM := Lib.hid (HREC.out m x hx)
          have HMC := Lib.hid (mem_cons (val := trV lv) (obj := true) (first := decide (m = 0)) (keys := keys) hx)
          clear hc1 hr1 hcs hx
          have hmk : m < keys.length := by have := HKL.out; omega
          obtain ⟨t, ht⟩ : ∃ t, keys[m]? = some t := ⟨_, List.getElem?_eq_getElem hmk⟩
          have ht2 : (keys.map fun t => [Value.string t])[m]? = some [Value.string t] := by rw [List.getElem?_map, ht]; rfl
          obtain ⟨bk, ok, rfl, hbk, _, hck⟩ := HK.out.elem ht2
          have HCK := Lib.hid hck
          have hts := HKS.out m t ht
          have HVT := Lib.hid (HV.out m t ht)
          have HKT := Lib.hid (keyT_obj ht)
          clear hck ht2 ht
          by_cases hm0 : m = 0
          case pos =>
            have hd0 : ¬ 0 < m := by omega
            have HEQ : Hid (outP o (innerT (lv + 1) 5 l keys) = thenP (outP om ((keyT true (keys.drop m)).bind ((trV lv x).bind (memT (trV lv) true false (l.drop (m + 1)) (keys.drop (m + 1)))))) (addT [125])) := by show _ = _; rw [H.out.2.2.2, HMC.out, decide_eq_true hm0]; rfl
            have HBL2 := HBL
            clear hm0 k0 k4 k5
            have hblk := HBL2.out
            obtain ⟨kk0, kk1, kk2, kk3, kk4, kk5⟩ := cells6 (HC.out.keepB hbg hblk)
            clear kk1 kk2 kk3 kk4
            have gk : wr.cell? ⟨bk, ok + m, none⟩ = some (.string t) := by have := HCK.out.keepB hbk hblk 0 _ rfl; simpa using this
            clear hblk
            go_wp2_with fail
            refine (ptext_any g vm om t _ H.out.2.1 H.out.1 (by omega)).mono ?_
            intro e wt hx
            rw [show textT t = addT (quoteS t) by unfold textT; rw [HVT.out]; rfl] at hx
            have HX := Lib.hid hx
            clear hx
            cases hres : outP om (addT (quoteS t)) with
            | error c => obtain ⟨rfl, hf⟩ := HX.out.at_error hres; exact ⟨rfl, PPost.no ((HEQ.out).trans (then_err (by rw [HKT.out, outP_bind, hres]; rfl))) rfl ((H.out.2.2.1).trans hf)⟩
            | ok ot =>
              obtain ⟨vt, rfl, hpt, hft⟩ := HX.out.at_ok hres
              have HT1 : Hid (ot.length ≤ 65536 ∧ PW wt g vt ot ∧ PFr g w wt) := ⟨outP_len hres, hpt, (H.out.2.2.1).trans hft⟩
              have HRES := Lib.hid hres
              clear hpt hft HX hres
              go_wp2_with fail
              refine (add_any g vt ot ⟨#[58]⟩ _ HT1.out.2.1 HT1.out.1 (by decide)).mono ?_
              intro e wu hx
              have HX := Lib.hid hx
              clear hx
              cases hres : outP ot (addT [58]) with
              | error c => obtain ⟨rfl, hf⟩ := HX.out.at_error hres; exact ⟨rfl, PPost.no ((HEQ.out).trans (then_err (by rw [HKT.out, outP_bind, HRES.out]; exact hres))) rfl (HT1.out.2.2.trans hf)⟩
              | ok ou =>
                obtain ⟨vu, rfl, hpu, hfu⟩ := HX.out.at_ok hres
                have HU : Hid (ou.length ≤ 65536 ∧ PW wu g vu ou ∧ PFr g w wu ∧ outP o (innerT (lv + 1) 5 l keys) = thenP (outP ou ((trV lv x).bind (memT (trV lv) true false (l.drop (m + 1)) (keys.drop (m + 1))))) (addT [125])) :=
                  ⟨outP_len hres, hpu, HT1.out.2.2.trans hfu, (HEQ.out).trans (then_ok (by rw [HKT.out, outP_bind, HRES.out]; exact hres))⟩
                have hbl3 := HU.out.2.2.1.toBelow (Nat.le_of_lt hgl)
                have HBL3 := Lib.hid hbl3
                have kk4 := HC.out.keepB hbg hbl3 4 _ rfl
                clear hpu hfu HX hres hbl3 kk5 kk0 gk
                go_wp2_with fail
                refine (HI.out B hB g vu ou b1 (o1 + m * 6) x0 x1 x2 x3 x4 x5 x D _ HU.out.2.1 HU.out.1 hb1g (HC1.out.keepB hb1g HBL3.out) (HR1.out.keepB HBL3.out) HSM.out (HT.out.on HBL3.out) (by have := HD.out; omega)).mono ?_
                intro e wx hx
                have HX := Lib.hid hx
                clear hx
                cases hres : outP ou (trV lv x) with
                | error c => obtain ⟨rfl, hf⟩ := HX.out.at_error hres; exact ⟨rfl, PPost.no ((HU.out.2.2.2).trans (then_err hres)) rfl ((HU.out.2.2.1).trans hf)⟩
                | ok ox =>
                  obtain ⟨vx, rfl, hpx, hfx⟩ := HX.out.at_ok hres
                  have HY : Hid (ox.length ≤ 65536 ∧ PW wx g vx ox ∧ PFr g w wx ∧ outP o (innerT (lv + 1) 5 l keys) = thenP (outP ox (memT (trV lv) true (decide (m + 1 = 0)) (l.drop (m + 1)) (keys.drop (m + 1)))) (addT [125])) :=
                    ⟨outP_len hres, hpx, (HU.out.2.2.1).trans hfx, (HU.out.2.2.2).trans (then_ok hres)⟩
                  clear hpx hfx HX hres
                  go_wp2_with fail
                  go_roundg (l.length - (m + 1))
                  case measure => have := HN.out; omega
                  case rel => exact ⟨m + 1, vx, ox, by go_num, by omega, rfl, HY.out⟩
          case neg =>
            have hd0 : 0 < m := by omega
            have HEQ0 : Hid (outP o (innerT (lv + 1) 5 l keys) = thenP (outP om ((addT [44]).bind ((keyT true (keys.drop m)).bind ((trV lv x).bind (memT (trV lv) true false (l.drop (m + 1)) (keys.drop (m + 1))))))) (addT [125])) := by show _ = _; rw [H.out.2.2.2, HMC.out, decide_eq_false hm0]; rfl
            go_wp2_with fail
            refine (add_any g vm om ⟨#[44]⟩ _ H.out.2.1 H.out.1 (by decide)).mono ?_
            intro e wc hx
            have HX := Lib.hid hx
            clear hx
            cases hres : outP om (addT [44]) with
            | error c => obtain ⟨rfl, hf⟩ := HX.out.at_error hres; exact ⟨rfl, PPost.no (HEQ0.out.trans (then_err hres)) rfl (H.out.2.2.1.trans hf)⟩
            | ok oc =>
              obtain ⟨vc, rfl, hpc, hfc⟩ := HX.out.at_ok hres
              have HS : Hid (oc.length ≤ 65536 ∧ PW wc g vc oc ∧ PFr g w wc ∧ outP o (innerT (lv + 1) 5 l keys) = thenP (outP oc ((keyT true (keys.drop m)).bind ((trV lv x).bind (memT (trV lv) true false (l.drop (m + 1)) (keys.drop (m + 1)))))) (addT [125])) := ⟨outP_len hres, hpc, H.out.2.2.1.trans hfc, HEQ0.out.trans (then_ok hres)⟩
              have HBL2 := Lib.hid (HS.out.2.2.1.toBelow (Nat.le_of_lt hgl))
              clear hpc hfc HX hres k0 k4 k5
              have hblk := HBL2.out
              obtain ⟨kk0, kk1, kk2, kk3, kk4, kk5⟩ := cells6 (HC.out.keepB hbg hblk)
              clear kk1 kk2 kk3 kk4
              have gk : wc.cell? ⟨bk, ok + m, none⟩ = some (.string t) := by have := HCK.out.keepB hbk hblk 0 _ rfl; simpa using this
              clear hblk
              go_wp2_with fail
              refine (ptext_any g vc oc t _ HS.out.2.1 HS.out.1 (by omega)).mono ?_
              intro e wt hx
              rw [show textT t = addT (quoteS t) by unfold textT; rw [HVT.out]; rfl] at hx
              have HX := Lib.hid hx
              clear hx
              cases hres : outP oc (addT (quoteS t)) with
              | error c => obtain ⟨rfl, hf⟩ := HX.out.at_error hres; exact ⟨rfl, PPost.no ((HS.out.2.2.2).trans (then_err (by rw [HKT.out, outP_bind, hres]; rfl))) rfl ((HS.out.2.2.1).trans hf)⟩
              | ok ot =>
                obtain ⟨vt, rfl, hpt, hft⟩ := HX.out.at_ok hres
                have HT1 : Hid (ot.length ≤ 65536 ∧ PW wt g vt ot ∧ PFr g w wt) := ⟨outP_len hres, hpt, (HS.out.2.2.1).trans hft⟩
                have HRES := Lib.hid hres
                clear hpt hft HX hres
                go_wp2_with fail
                refine (add_any g vt ot ⟨#[58]⟩ _ HT1.out.2.1 HT1.out.1 (by decide)).mono ?_
                intro e wu hx
                have HX := Lib.hid hx
                clear hx
                cases hres : outP ot (addT [58]) with
                | error c => obtain ⟨rfl, hf⟩ := HX.out.at_error hres; exact ⟨rfl, PPost.no ((HS.out.2.2.2).trans (then_err (by rw [HKT.out, outP_bind, HRES.out]; exact hres))) rfl (HT1.out.2.2.trans hf)⟩
                | ok ou =>
                  obtain ⟨vu, rfl, hpu, hfu⟩ := HX.out.at_ok hres
                  have HU : Hid (ou.length ≤ 65536 ∧ PW wu g vu ou ∧ PFr g w wu ∧ outP o (innerT (lv + 1) 5 l keys) = thenP (outP ou ((trV lv x).bind (memT (trV lv) true false (l.drop (m + 1)) (keys.drop (m + 1))))) (addT [125])) :=
                    ⟨outP_len hres, hpu, HT1.out.2.2.trans hfu, (HS.out.2.2.2).trans (then_ok (by rw [HKT.out, outP_bind, HRES.out]; exact hres))⟩
                  have hbl3 := HU.out.2.2.1.toBelow (Nat.le_of_lt hgl)
                  have HBL3 := Lib.hid hbl3
                  have kk4 := HC.out.keepB hbg hbl3 4 _ rfl
                  clear hpu hfu HX hres hbl3 kk5 kk0 gk
                  go_wp2_with fail
                  refine (HI.out B hB g vu ou b1 (o1 + m * 6) x0 x1 x2 x3 x4 x5 x D _ HU.out.2.1 HU.out.1 hb1g (HC1.out.keepB hb1g HBL3.out) (HR1.out.keepB HBL3.out) HSM.out (HT.out.on HBL3.out) (by have := HD.out; omega)).mono ?_
                  intro e wx hx
                  have HX := Lib.hid hx
                  clear hx
                  cases hres : outP ou (trV lv x) with
                  | error c => obtain ⟨rfl, hf⟩ := HX.out.at_error hres; exact ⟨rfl, PPost.no ((HU.out.2.2.2).trans (then_err hres)) rfl ((HU.out.2.2.1).trans hf)⟩
                  | ok ox =>
                    obtain ⟨vx, rfl, hpx, hfx⟩ := HX.out.at_ok hres
                    have HY : Hid (ox.length ≤ 65536 ∧ PW wx g vx ox ∧ PFr g w wx ∧ outP o (innerT (lv + 1) 5 l keys) = thenP (outP ox (memT (trV lv) true (decide (m + 1 = 0)) (l.drop (m + 1)) (keys.drop (m + 1)))) (addT [125])) :=
                      ⟨outP_len hres, hpx, (HU.out.2.2.1).trans hfx, (HU.out.2.2.2).trans (then_ok hres)⟩
                    clear hpx hfx HX hres
                    go_wp2_with fail
                    go_roundg (l.length - (m + 1))
                    case measure => have := HN.out; omega
                    case rel => exact ⟨m + 1, vx, ox, by go_num, by omega, rfl, HY.out⟩

theorem pinner_succ (lv : Nat) (hlv : lv < 16) (hval : PValC lv) : PInnC (lv + 1) := by
  intro B hB g v o b off a0 a1 a2 a3 a4 a5 k q n s l keys D w h ho hbg hc hr hsm htab hk hD
  rcases hk with rfl | rfl
  · exact pinner_list lv hlv hval B hB g v o b off a0 a1 a2 a3 a4 a5 q n s l keys D w h ho hbg hc hr hsm htab hD
  · exact pinner_obj lv hlv hval B hB g v o b off a0 a1 a2 a3 a4 a5 q n s l keys D w h ho hbg hc hr hsm htab hD
theorem pvalue_all : ∀ lv, lv ≤ 16 → PValC lv
  | 0, h => pvalue_of 0 h pinner_zero
  | lv + 1, h => pvalue_of (lv + 1) h (pinner_succ lv (by omega) (pvalue_all lv (by omega)))

end Go.Proofs.YtbhnfehpbbibbaaDoor
