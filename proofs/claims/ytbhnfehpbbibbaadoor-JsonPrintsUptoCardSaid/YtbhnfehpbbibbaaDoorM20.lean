/- The reference's printer: value and members, from each other; then both at every depth. For every world. -/
import Derived.Test.YtbhnfehpbbibbaaDoorM13
import Derived.Test.YtbhnfehpbbibbaaDoorM14
import Derived.Test.YtbhnfehpbbibbaaDoorM15
import Derived.Test.YtbhnfehpbbibbaaDoorM19

namespace Go.Proofs.YtbhnfehpbbibbaaDoor
open Go.RowKit

theorem thenP_bind (r : Except Int (List UInt8)) (a b : Tr) : thenP r (a.bind b) = thenP (thenP r a) b := by
  cases r with
  | error c => rfl
  | ok o => exact outP_bind o a b
theorem thenP_nil (o : List UInt8) (c : Int) : thenP (nS o c) (addT []) = nS o c := by
  unfold nS
  split
  · split
    · rfl
    · show outP o (addT []) = _
      rw [outP_add (by simp; omega), List.append_nil]
  · rfl
theorem JB.pfr {w w' : World} {R g : Nat} {a b c d e f : Value} (h : JB w R a b c d e f) (hf : PFr g w w') (hR : g < R) : JB w' R a b c d e f :=
  (hf.block R h.lt (.inr ⟨by omega, fun cs fr he => by
    have h2 : w.heap[R]? = some (.cells #[a, b, c, d, e, f] 25 (0, 0)) := h
    rw [h2] at he
    injection he with he
    injection he with _ he _
    exact absurd he (by decide)⟩)).trans h
theorem RW.pfr_alloc {w : World} {g : Nat} {v : Value} {o : List UInt8} {c : Int} (h : RW w g v o c) (x : Obj) : RW (w.alloc x) g v o c := h.alloc x
theorem jrep_alloc {w : World} {g : Nat} {cs : List Value} {x : J} (h : JRep w (fun k => k < g) cs x) (hg : g ≤ w.heap.size) (o : Obj) : JRep (w.alloc o) (fun k => k < g) cs x := h.keepB ((Below.refl g w).alloc hg o)

def RMemC (lv : Nat) : Prop := ∀ (B : Nat), B ≤ 33554432 → ∀ (g : Nat) (v : Value) (o : List UInt8) (c : Int) (a0 a1 a2 a3 a4 a5 : Value) (k : Int) (q : Bool) (n : Int) (s : ByteArray) (l : List J) (keys : List ByteArray) (D : Int) (w : World),
  RW w g v o c → o.length ≤ 268435456 → JRep w (fun i => i < g) [a0, a1, a2, a3, a4, a5] (.mk k q n s l keys) → Sm B (.mk k q n s l keys) → (k = 4 ∨ (k = 5 ∧ keys.length = l.length)) → D + lv = 16 →
  Calls Tryd.prog 46 #[.pointer (some ⟨g, 0, none⟩), .agg #[a0, a1, a2, a3, a4, a5], .int .i64 D] w
    (RPost g (thenP (nS o c) ((addT [if k = 5 then 123 else 91]).bind ((memT (trV lv) (decide (k = 5)) true l keys).bind (addT [if k = 5 then 125 else 93])))) w)
def RPValC (lv : Nat) : Prop := ∀ (B : Nat), B ≤ 33554432 → ∀ (g : Nat) (v : Value) (o : List UInt8) (c : Int) (a0 a1 a2 a3 a4 a5 : Value) (x : J) (D : Int) (w : World),
  RW w g v o c → o.length ≤ 268435456 → JRep w (fun i => i < g) [a0, a1, a2, a3, a4, a5] x → Sm B x → D + lv = 16 →
  Calls Tryd.prog 23 #[.pointer (some ⟨g, 0, none⟩), .agg #[a0, a1, a2, a3, a4, a5], .int .i64 D] w (RPost g (thenP (nS o c) (trV lv x)) w)

set_option maxRecDepth 100000 in
set_option maxHeartbeats 4000000 in
theorem rpvalue_of (lv : Nat) (hlv : lv ≤ 16) (hin : ∀ lv', lv = lv' + 1 → RMemC lv') : RPValC lv := by
  intro B hB g v o c a0 a1 a2 a3 a4 a5 x D w h ho hr hsm hD
  cases hsm with
  | @mk k q n s l keys hl hk hs hks hn hrec =>
    have HSM : Hid (Sm B (.mk k q n s l keys)) := .mk hl hk hs hks hn hrec
    have hgl := h.lt
    have HR := Lib.hid hr
    obtain ⟨rfl, rfl, rfl, rfl, css, A1, c1, A2, c2, rfl, rfl, hcl, hL, hrc, hK⟩ := rep_parts hr
    have HJ := Lib.hid (JB.new w (.int .i64 k) (.bool q) (.int .i64 n) (.string s) (.slice A1 l.length c1) (.slice A2 keys.length c2))
    have HP1 := Lib.hid (h.alloc (.cells #[.int .i64 k, .bool q, .int .i64 n, .string s, .slice A1 l.length c1, .slice A2 keys.length c2] 25))
    have HR1 := Lib.hid (jrep_alloc hr (Nat.le_of_lt hgl) (.cells #[.int .i64 k, .bool q, .int .i64 n, .string s, .slice A1 l.length c1, .slice A2 keys.length c2] 25))
    have HF1 : Hid (PFr g w (w.alloc (.cells #[.int .i64 k, .bool q, .int .i64 n, .string s, .slice A1 l.length c1, .slice A2 keys.length c2] 25))) := (PFr.refl g w).alloc _
    have HI := Lib.hid hin
    have HD := Lib.hid hD
    have HN := Lib.hid hn
    have HKS := Lib.hid hks
    have hD0 : 0 ≤ D := by omega
    have hD1 : D ≤ 16 := by omega
    have HE := Lib.hid (trV_eq lv k q n s l keys)
    clear h hin hr hks hn hrec hcl hL hrc hK hD
    by_cases hk0 : k = 0
    case pos =>
      subst hk0
      have HQ : Hid (thenP (nS o c) (trV lv (.mk 0 q n s l keys)) = thenP (nS o c) (addT (⟨#[110, 117, 108, 108]⟩ : ByteArray).data.toList)) := by show _ = _; rw [HE.out]; rfl
      go_enter Tryd.func23, Tryd.ntmps23
      go_wp2_with fail
      refine (radd_any g v o c ⟨#[110, 117, 108, 108]⟩ _ HP1.out ho (by decide)).mono ?_
      rintro e w3 ⟨rfl, hf, hst⟩
      have H3 : Hid (PFr g w w3 ∧ ∃ v' o' c', RW w3 g v' o' c' ∧ nS o' c' = thenP (nS o c) (trV lv (.mk 0 q n s l keys)) ∧ o'.length ≤ 268435456) := ⟨HF1.out.trans hf, by rw [HQ.out]; exact hst⟩
      clear hf hst
      go_wp2_with fail
      go_end0
      exact ⟨rfl, H3.out.1, H3.out.2⟩
    case neg =>
      by_cases hk1 : k = 1
      case pos =>
        subst hk1
        cases q with
        | true =>
          have HQ : Hid (thenP (nS o c) (trV lv (.mk 1 true n s l keys)) = thenP (nS o c) (addT (⟨#[116, 114, 117, 101]⟩ : ByteArray).data.toList)) := by show _ = _; rw [HE.out]; rfl
          go_enter Tryd.func23, Tryd.ntmps23
          go_wp2_with fail
          refine (radd_any g v o c ⟨#[116, 114, 117, 101]⟩ _ HP1.out ho (by decide)).mono ?_
          rintro e w3 ⟨rfl, hf, hst⟩
          have H3 : Hid (PFr g w w3 ∧ ∃ v' o' c', RW w3 g v' o' c' ∧ nS o' c' = thenP (nS o c) (trV lv (.mk 1 true n s l keys)) ∧ o'.length ≤ 268435456) := ⟨HF1.out.trans hf, by rw [HQ.out]; exact hst⟩
          clear hf hst
          go_wp2_with fail
          go_end0
          exact ⟨rfl, H3.out.1, H3.out.2⟩
        | false =>
          have HQ : Hid (thenP (nS o c) (trV lv (.mk 1 false n s l keys)) = thenP (nS o c) (addT (⟨#[102, 97, 108, 115, 101]⟩ : ByteArray).data.toList)) := by show _ = _; rw [HE.out]; rfl
          go_enter Tryd.func23, Tryd.ntmps23
          go_wp2_with fail
          refine (radd_any g v o c ⟨#[102, 97, 108, 115, 101]⟩ _ HP1.out ho (by decide)).mono ?_
          rintro e w3 ⟨rfl, hf, hst⟩
          have H3 : Hid (PFr g w w3 ∧ ∃ v' o' c', RW w3 g v' o' c' ∧ nS o' c' = thenP (nS o c) (trV lv (.mk 1 false n s l keys)) ∧ o'.length ≤ 268435456) := ⟨HF1.out.trans hf, by rw [HQ.out]; exact hst⟩
          clear hf hst
          go_wp2_with fail
          go_end0
          exact ⟨rfl, H3.out.1, H3.out.2⟩
      case neg =>
        by_cases hk2 : k = 2
        case pos =>
          subst hk2
          have HQ : Hid (thenP (nS o c) (trV lv (.mk 2 q n s l keys)) = thenP (nS o c) (addT (⟨(Lib.itoa n).toArray⟩ : ByteArray).data.toList)) := by show _ = _; rw [HE.out]; rfl
          have HZ : Hid ((⟨(Lib.itoa n).toArray⟩ : ByteArray).size ≤ 201326602) := by have := itoa_len HN.out.1 HN.out.2; show (Lib.itoa n).length ≤ _; omega
          go_enter Tryd.func23, Tryd.ntmps23
          go_wp2_with fail
          refine (decimal_any n _ HN.out.1 HN.out.2).mono ?_
          rintro e w2 ⟨rfl, hb⟩
          have HB2 := Lib.hid hb
          clear hb
          go_wp2_with fail
          refine (radd_any g v o c _ _ (HP1.out.below HB2.out) ho HZ.out).mono ?_
          rintro e w3 ⟨rfl, hf, hst⟩
          have H3 : Hid (PFr g w w3 ∧ ∃ v' o' c', RW w3 g v' o' c' ∧ nS o' c' = thenP (nS o c) (trV lv (.mk 2 q n s l keys)) ∧ o'.length ≤ 268435456) := ⟨HF1.out.trans ((PFr.below HB2.out).trans hf), by rw [HQ.out]; exact hst⟩
          clear hf hst
          go_wp2_with fail
          go_end0
          exact ⟨rfl, H3.out.1, H3.out.2⟩
        case neg =>
          by_cases hk3 : k = 3
          case pos =>
            subst hk3
            cases hv : validS s with
            | false =>
              have HQ : Hid (thenP (nS o c) (trV lv (.mk 3 q n s l keys)) = thenP (nS o c) (failT 300)) := by show _ = _; rw [HE.out]; show thenP _ (textT s) = _; unfold textT; rw [hv]; rfl
              have HV := Lib.hid hv
              clear hv
              go_enter Tryd.func23, Tryd.ntmps23
              go_wp2_with fail
              refine (refValid_any s _ (by omega)).mono ?_
              rw [HV.out]
              rintro e w2 ⟨rfl, hb⟩
              have HB2 := Lib.hid hb
              clear hb
              go_wp2_with fail
              refine (rpfail_any g v o c 300 _ (HP1.out.below HB2.out) ho (by decide)).mono ?_
              rintro e w3 ⟨rfl, hf, hst⟩
              have H3 : Hid (PFr g w w3 ∧ ∃ v' o' c', RW w3 g v' o' c' ∧ nS o' c' = thenP (nS o c) (trV lv (.mk 3 q n s l keys)) ∧ o'.length ≤ 268435456) := ⟨HF1.out.trans ((PFr.below HB2.out).trans hf), by rw [HQ.out]; exact hst⟩
              clear hf hst
              go_wp2_with fail
              go_end0
              exact ⟨rfl, H3.out.1, H3.out.2⟩
            | true =>
              have HQ : Hid (thenP (nS o c) (trV lv (.mk 3 q n s l keys)) = thenP (nS o c) (addT (⟨(quoteS s).toArray⟩ : ByteArray).data.toList)) := by show _ = _; rw [HE.out]; show thenP _ (textT s) = _; unfold textT; rw [hv]; rfl
              have HV := Lib.hid hv
              clear hv
              have HZ : Hid ((⟨(quoteS s).toArray⟩ : ByteArray).size ≤ 201326602) := by have := quote_len s; show (quoteS s).length ≤ _; omega
              go_enter Tryd.func23, Tryd.ntmps23
              go_wp2_with fail
              refine (refValid_any s _ (by omega)).mono ?_
              rw [HV.out]
              rintro e w2 ⟨rfl, hb⟩
              have HB2 := Lib.hid hb
              have HJ2 := Lib.hid (HJ.out.below hb)
              obtain ⟨y0, y1, y2, y3, y4, y5⟩ := HJ2.out.cell
              clear hb
              go_wp2_with fail
              refine (quote_any s _ (by omega)).mono ?_
              rintro e w3 ⟨rfl, hb⟩
              have HB3 := Lib.hid (Below.trans2 HB2.out hb)
              clear hb
              go_wp2_with fail
              refine (radd_any g v o c _ _ (HP1.out.below HB3.out) ho HZ.out).mono ?_
              rintro e w4 ⟨rfl, hf, hst⟩
              have H3 : Hid (PFr g w w4 ∧ ∃ v' o' c', RW w4 g v' o' c' ∧ nS o' c' = thenP (nS o c) (trV lv (.mk 3 q n s l keys)) ∧ o'.length ≤ 268435456) := ⟨HF1.out.trans ((PFr.below HB3.out).trans hf), by rw [HQ.out]; exact hst⟩
              clear hf hst
              go_wp2_with fail
              go_end0
              exact ⟨rfl, H3.out.1, H3.out.2⟩
          case neg =>
            by_cases hk4 : k = 4
            case pos =>
              subst hk4
              cases lv with
              | zero =>
                have HQ : Hid (thenP (nS o c) (trV 0 (.mk 4 q n s l keys)) = thenP (nS o c) (failT 301)) := by show _ = _; rw [HE.out]; rfl
                have hd : decide ((16 : Int) < D + 1) = true := decide_eq_true (by have := HD.out; omega)
                go_enter Tryd.func23, Tryd.ntmps23
                go_wp2_with fail
                refine (rpfail_any g v o c 301 _ HP1.out ho (by decide)).mono ?_
                rintro e w3 ⟨rfl, hf, hst⟩
                have H3 : Hid (PFr g w w3 ∧ ∃ v' o' c', RW w3 g v' o' c' ∧ nS o' c' = thenP (nS o c) (trV 0 (.mk 4 q n s l keys)) ∧ o'.length ≤ 268435456) := ⟨HF1.out.trans hf, by rw [HQ.out]; exact hst⟩
                clear hf hst
                go_wp2_with fail
                go_end0
                exact ⟨rfl, H3.out.1, H3.out.2⟩
              | succ lv =>
                have hd : decide ((16 : Int) < D + 1) = false := decide_eq_false (by have := HD.out; omega)
                have HQ : Hid (thenP (nS o c) (trV (lv + 1) (.mk 4 q n s l keys)) = thenP (nS o c) ((addT [91]).bind ((memT (trV lv) false true l keys).bind (addT [93])))) := by show _ = _; rw [HE.out]; show thenP _ (innerT (lv + 1) 4 l keys) = _; rw [innerT_succ, if_neg (show ¬ ((4 : Int) = 5 ∧ keysB keys l.length = false) from fun h => absurd h.1 (by decide))]; rfl
                go_enter Tryd.func23, Tryd.ntmps23
                go_wp2_with fail
                refine ((HI.out lv rfl) B hB g v o c _ _ _ _ _ _ 4 q n s l keys (D + 1) _ HP1.out ho HR1.out HSM.out (.inl rfl) (by have := HD.out; omega)).mono ?_
                rintro e w3 ⟨rfl, hf, hst⟩
                have H3 : Hid (PFr g w w3 ∧ ∃ v' o' c', RW w3 g v' o' c' ∧ nS o' c' = thenP (nS o c) (trV (lv + 1) (.mk 4 q n s l keys)) ∧ o'.length ≤ 268435456) := ⟨HF1.out.trans hf, by rw [HQ.out]; exact hst⟩
                clear hf hst
                go_wp2_with fail
                go_end0
                exact ⟨rfl, H3.out.1, H3.out.2⟩
            case neg =>
              by_cases hk5 : k = 5
              case pos =>
                subst hk5
                cases lv with
                | zero =>
                  have HQ : Hid (thenP (nS o c) (trV 0 (.mk 5 q n s l keys)) = thenP (nS o c) (failT 301)) := by show _ = _; rw [HE.out]; rfl
                  have hd : decide ((16 : Int) < D + 1) = true := decide_eq_true (by have := HD.out; omega)
                  go_enter Tryd.func23, Tryd.ntmps23
                  go_wp2_with fail
                  refine (rpfail_any g v o c 301 _ HP1.out ho (by decide)).mono ?_
                  rintro e w3 ⟨rfl, hf, hst⟩
                  have H3 : Hid (PFr g w w3 ∧ ∃ v' o' c', RW w3 g v' o' c' ∧ nS o' c' = thenP (nS o c) (trV 0 (.mk 5 q n s l keys)) ∧ o'.length ≤ 268435456) := ⟨HF1.out.trans hf, by rw [HQ.out]; exact hst⟩
                  clear hf hst
                  go_wp2_with fail
                  go_end0
                  exact ⟨rfl, H3.out.1, H3.out.2⟩
                | succ lv =>
                  have hd : decide ((16 : Int) < D + 1) = false := decide_eq_false (by have := HD.out; omega)
                  cases hkb : keysB keys l.length with
                  | false =>
                    have HQ : Hid (thenP (nS o c) (trV (lv + 1) (.mk 5 q n s l keys)) = thenP (nS o c) (failT 300)) := by show _ = _; rw [HE.out]; show thenP _ (innerT (lv + 1) 5 l keys) = _; rw [innerT_succ, if_pos ⟨rfl, hkb⟩]
                    have HKB := Lib.hid hkb
                    clear hkb
                    go_enter Tryd.func23, Tryd.ntmps23
                    go_wp2_with fail
                    refine (rkeys_any B (by omega) _ _ _ _ _ _ 5 q n s l keys _ _ HR1.out hl hk HKS.out).mono ?_
                    rw [HKB.out]
                    rintro e w2 ⟨rfl, hb⟩
                    have HB2 := Lib.hid hb
                    clear hb
                    go_wp2_with fail
                    refine (rpfail_any g v o c 300 _ (HP1.out.below HB2.out) ho (by decide)).mono ?_
                    rintro e w3 ⟨rfl, hf, hst⟩
                    have H3 : Hid (PFr g w w3 ∧ ∃ v' o' c', RW w3 g v' o' c' ∧ nS o' c' = thenP (nS o c) (trV (lv + 1) (.mk 5 q n s l keys)) ∧ o'.length ≤ 268435456) := ⟨HF1.out.trans ((PFr.below HB2.out).trans hf), by rw [HQ.out]; exact hst⟩
                    clear hf hst
                    go_wp2_with fail
                    go_end0
                    exact ⟨rfl, H3.out.1, H3.out.2⟩
                  | true =>
                    have HQ : Hid (thenP (nS o c) (trV (lv + 1) (.mk 5 q n s l keys)) = thenP (nS o c) ((addT [123]).bind ((memT (trV lv) true true l keys).bind (addT [125])))) := by show _ = _; rw [HE.out]; show thenP _ (innerT (lv + 1) 5 l keys) = _; rw [innerT_succ, if_neg (show ¬ ((5 : Int) = 5 ∧ keysB keys l.length = false) from by rw [hkb]; exact fun h => absurd h.2 (by decide))]; rfl
                    have HKL : Hid (keys.length = l.length) := by show keys.length = l.length; unfold keysB at hkb; rw [Bool.and_eq_true] at hkb; exact of_decide_eq_true hkb.1
                    have HKB := Lib.hid hkb
                    clear hkb
                    go_enter Tryd.func23, Tryd.ntmps23
                    go_wp2_with fail
                    refine (rkeys_any B (by omega) _ _ _ _ _ _ 5 q n s l keys _ _ HR1.out hl hk HKS.out).mono ?_
                    rw [HKB.out]
                    rintro e w2 ⟨rfl, hb⟩
                    have HB2 := Lib.hid hb
                    have HJ2 := Lib.hid (HJ.out.below hb)
                    have HR2 := Lib.hid (HR1.out.keepB (hb.mono (by simp; omega)))
                    obtain ⟨y0, y1, y2, y3, y4, y5⟩ := HJ2.out.cell
                    clear hb
                    go_wp2_with fail
                    refine ((HI.out lv rfl) B hB g v o c _ _ _ _ _ _ 5 q n s l keys (D + 1) _ (HP1.out.below HB2.out) ho HR2.out HSM.out (.inr ⟨rfl, HKL.out⟩) (by have := HD.out; omega)).mono ?_
                    rintro e w3 ⟨rfl, hf, hst⟩
                    have H3 : Hid (PFr g w w3 ∧ ∃ v' o' c', RW w3 g v' o' c' ∧ nS o' c' = thenP (nS o c) (trV (lv + 1) (.mk 5 q n s l keys)) ∧ o'.length ≤ 268435456) := ⟨HF1.out.trans ((PFr.below HB2.out).trans hf), by rw [HQ.out]; exact hst⟩
                    clear hf hst
                    go_wp2_with fail
                    go_end0
                    exact ⟨rfl, H3.out.1, H3.out.2⟩
              case neg =>
                have HQ : Hid (thenP (nS o c) (trV lv (.mk k q n s l keys)) = thenP (nS o c) (failT 300)) := by show _ = _; rw [HE.out]; simp only [hk0, hk1, hk2, hk3, hk4, hk5, or_self, if_false]
                by_cases hneg : k < 0
                case pos =>
                  have d0 : decide (k < 0) = true := decide_eq_true hneg
                  clear hneg hk0 hk1 hk2 hk3 hk4 hk5
                  go_enter Tryd.func23, Tryd.ntmps23
                  go_wp2_with fail
                  refine (rpfail_any g v o c 300 _ HP1.out ho (by decide)).mono ?_
                  rintro e w3 ⟨rfl, hf, hst⟩
                  have H3 : Hid (PFr g w w3 ∧ ∃ v' o' c', RW w3 g v' o' c' ∧ nS o' c' = thenP (nS o c) (trV lv (.mk k q n s l keys)) ∧ o'.length ≤ 268435456) := ⟨HF1.out.trans hf, by rw [HQ.out]; exact hst⟩
                  clear hf hst
                  go_wp2_with fail
                  go_end0
                  exact ⟨rfl, H3.out.1, H3.out.2⟩
                case neg =>
                  have d0 : decide (k < 0) = false := decide_eq_false hneg
                  have d1 : decide ((5 : Int) < k) = true := decide_eq_true (by omega)
                  clear hneg hk0 hk1 hk2 hk3 hk4 hk5
                  go_enter Tryd.func23, Tryd.ntmps23
                  go_wp2_with fail
                  refine (rpfail_any g v o c 300 _ HP1.out ho (by decide)).mono ?_
                  rintro e w3 ⟨rfl, hf, hst⟩
                  have H3 : Hid (PFr g w w3 ∧ ∃ v' o' c', RW w3 g v' o' c' ∧ nS o' c' = thenP (nS o c) (trV lv (.mk k q n s l keys)) ∧ o'.length ≤ 268435456) := ⟨HF1.out.trans hf, by rw [HQ.out]; exact hst⟩
                  clear hf hst
                  go_wp2_with fail
                  go_end0
                  exact ⟨rfl, H3.out.1, H3.out.2⟩

set_option maxRecDepth 100000 in
set_option maxHeartbeats 8000000 in
theorem rmem_list (lv : Nat) (hlv : lv < 16) (hval : RPValC lv) (B : Nat) (hB : B ≤ 33554432) (g : Nat) (v : Value) (o : List UInt8) (c : Int) (a0 a1 a2 a3 a4 a5 : Value) (q : Bool) (n : Int) (s : ByteArray) (l : List J) (keys : List ByteArray) (D : Int) (w : World)
    (h : RW w g v o c) (ho : o.length ≤ 268435456) (hr : JRep w (fun i => i < g) [a0, a1, a2, a3, a4, a5] (.mk 4 q n s l keys)) (hsm : Sm B (.mk 4 q n s l keys)) (hD : D + lv = 16) :
    Calls Tryd.prog 46 #[.pointer (some ⟨g, 0, none⟩), .agg #[a0, a1, a2, a3, a4, a5], .int .i64 D] w (RPost g (thenP (nS o c) ((addT [91]).bind ((memT (trV lv) false true l keys).bind (addT [93])))) w) := by
  cases hsm with
  | mk hl hk hs hks hn hrec =>
    have hgl := h.lt
    obtain ⟨rfl, rfl, rfl, rfl, css, A1, c1, A2, c2, rfl, rfl, hcl, hL, hrc, hK⟩ := rep_parts hr
    have HJ := Lib.hid (JB.new w (.int .i64 4) (.bool q) (.int .i64 n) (.string s) (.slice A1 l.length c1) (.slice A2 keys.length c2))
    have HP1 := Lib.hid (h.alloc (.cells #[.int .i64 4, .bool q, .int .i64 n, .string s, .slice A1 l.length c1, .slice A2 keys.length c2] 25))
    have HF1 : Hid (PFr g w (w.alloc (.cells #[.int .i64 4, .bool q, .int .i64 n, .string s, .slice A1 l.length c1, .slice A2 keys.length c2] 25))) := (PFr.refl g w).alloc _
    have HI := Lib.hid hval
    have HD := Lib.hid hD
    have HL := Lib.hid hL
    have HK := Lib.hid hK
    have HRC := Lib.hid hrc
    have HCL := Lib.hid hcl
    have HREC := Lib.hid hrec
    have HKS := Lib.hid hks
    have hD0 : 0 ≤ D := by omega
    have hD1 : D ≤ 16 := by omega
    clear h hval hr hks hn hrec hcl hL hrc hK hD
    go_enter Tryd.func46, Tryd.ntmps46
    go_wp2_with fail
    refine (radd_any g v o c ⟨#[91]⟩ _ HP1.out ho (by decide)).mono ?_
    rintro e w2 ⟨rfl, hf, v2, o2, c2', hp2, hn2, ho2⟩
    have H2 : Hid (RW w2 g v2 o2 c2' ∧ PFr g w w2 ∧ JB w2 w.heap.size (.int .i64 4) (.bool q) (.int .i64 n) (.string s) (.slice A1 l.length c1) (.slice A2 keys.length c2) ∧ thenP (nS o c) ((addT [91]).bind ((memT (trV lv) false true l keys).bind (addT [93]))) = thenP (thenP (nS o2 c2') (memT (trV lv) false (decide (0 = 0)) (l.drop 0) (keys.drop 0))) (addT [93])) :=
      ⟨hp2, HF1.out.trans hf, HJ.out.pfr hf hgl, by rw [thenP_bind, thenP_bind, hn2]; rfl⟩
    clear hf hp2 hn2 HJ HP1 HF1
    go_wp2_with fail
    go_loopg [8] (l.length) (fun nn v8 wr => ∃ (m : Nat) (vm : Value) (om : List UInt8) (cm : Int), v8 = .int .i64 m ∧ m ≤ l.length ∧ nn = l.length - m ∧ om.length ≤ 268435456 ∧ Hid (RW wr g vm om cm ∧ PFr g w wr ∧ JB wr w.heap.size (.int .i64 4) (.bool q) (.int .i64 n) (.string s) (.slice A1 l.length c1) (.slice A2 keys.length c2) ∧ thenP (nS o c) ((addT [91]).bind ((memT (trV lv) false true l keys).bind (addT [93]))) = thenP (thenP (nS om cm) (memT (trV lv) false (decide (m = 0)) (l.drop m) (keys.drop m))) (addT [93])))
    case atStart => exact ⟨0, v2, o2, c2', rfl, Nat.zero_le _, rfl, ho2, H2.out⟩
    case round =>
      obtain ⟨m, vm, om, cm, rfl, hm, hn, hom, H⟩ := hrel
      have HN := Lib.hid hn
      clear hn H2
      have HBL := Lib.hid (H.out.2.1.toBelow (Nat.le_of_lt hgl))
      obtain ⟨k0, k1, k2, k3, k4, k5⟩ := H.out.2.2.1.cell
      have kc := H.out.1.c1
      by_cases hml : m < l.length ∧ cm = 0
      case neg =>
        have HE : Hid (thenP (nS o c) ((addT [91]).bind ((memT (trV lv) false true l keys).bind (addT [93]))) = thenP (nS om cm) (addT [93])) := by
          show _ = _
          rw [H.out.2.2.2]
          by_cases hc0 : cm = 0
          · have : m = l.length := by
              by_cases hmm : m < l.length
              · exact absurd ⟨hmm, hc0⟩ hml
              · omega
            subst this
            rw [List.drop_length]
            show thenP (thenP (nS om cm) (addT [])) _ = _
            rw [thenP_nil]
          · rw [nS_err hc0]; rfl
        by_cases hmm : m < l.length
        case pos =>
          have hcb : (cm == 0) = false := beq_eq_false_iff_ne.2 (fun h => hml ⟨hmm, h⟩)
          clear hml
          go_wp2_with fail
          refine (radd_any g vm om cm ⟨#[93]⟩ _ H.out.1 hom (by decide)).mono ?_
          rintro e w3 ⟨rfl, hf, hst⟩
          have H3 : Hid (PFr g w w3 ∧ ∃ v' o' c', RW w3 g v' o' c' ∧ nS o' c' = thenP (nS o c) ((addT [91]).bind ((memT (trV lv) false true l keys).bind (addT [93]))) ∧ o'.length ≤ 268435456) := ⟨H.out.2.1.trans hf, by rw [HE.out]; exact hst⟩
          clear hf hst
          go_wp2_with fail
          go_end0
          exact ⟨rfl, H3.out.1, H3.out.2⟩
        case neg =>
          clear hml
          go_wp2_with fail
          refine (radd_any g vm om cm ⟨#[93]⟩ _ H.out.1 hom (by decide)).mono ?_
          rintro e w3 ⟨rfl, hf, hst⟩
          have H3 : Hid (PFr g w w3 ∧ ∃ v' o' c', RW w3 g v' o' c' ∧ nS o' c' = thenP (nS o c) ((addT [91]).bind ((memT (trV lv) false true l keys).bind (addT [93]))) ∧ o'.length ≤ 268435456) := ⟨H.out.2.1.trans hf, by rw [HE.out]; exact hst⟩
          clear hf hst
          go_wp2_with fail
          go_end0
          exact ⟨rfl, H3.out.1, H3.out.2⟩
      case pos =>
        obtain ⟨hml, rfl⟩ := hml
        obtain ⟨x, hx⟩ : ∃ t, l[m]? = some t := ⟨_, List.getElem?_eq_getElem hml⟩
        obtain ⟨cs, hcs⟩ : ∃ t, css[m]? = some t := ⟨_, List.getElem?_eq_getElem (by have := HCL.out; omega)⟩
        obtain ⟨b1, o1, rfl, hb1g, _, hc1⟩ := HL.out.elem hcs
        have hr1 := HRC.out m cs x hcs hx
        obtain ⟨x0, x1, x2, x3, x4, x5, rfl⟩ := hr1.six
        have HC1 := Lib.hid hc1
        obtain ⟨z1, z2, z3, z4, B1, l1, m1, B2, l2, m2, rfl, rfl, rfl, rfl, rfl, rfl⟩ := rep_form hr1
        have HR1 := Lib.hid hr1
        have HSM := Lib.hid (HREC.out m x hx)
        have HMC := Lib.hid (mem_cons (val := trV lv) (obj := false) (first := decide (m = 0)) (keys := keys) hx)
        clear hc1 hr1 hcs hx
        by_cases hm0 : m = 0
        case pos =>
          have hd0 : ¬ 0 < m := by omega
          have H5 : Hid (RW wr g vm om 0 ∧ PFr g w wr ∧ JB wr w.heap.size (.int .i64 4) (.bool q) (.int .i64 n) (.string s) (.slice (some ⟨b1, o1, none⟩) l.length c1) (.slice A2 keys.length c2) ∧ thenP (nS o c) ((addT [91]).bind ((memT (trV lv) false true l keys).bind (addT [93]))) = thenP (thenP (nS om 0) ((trV lv x).bind (memT (trV lv) false false (l.drop (m + 1)) (keys.drop (m + 1))))) (addT [93])) := ⟨H.out.1, H.out.2.1, H.out.2.2.1, by rw [H.out.2.2.2, HMC.out, decide_eq_true hm0]; rfl⟩
          clear hm0
          have hblk := H5.out.2.1.toBelow (Nat.le_of_lt hgl)
          have HBX := Lib.hid hblk
          obtain ⟨y0, y1, y2, y3, y4, y5⟩ := H5.out.2.2.1.cell
          obtain ⟨x0, x1, x2, x3, x4, x5⟩ := cells6 (HC1.out.keepB hb1g hblk)
          clear hblk
          go_wp2_with fail
          refine (HI.out B hB g vm om 0 _ _ _ _ _ _ x D _ H5.out.1 hom (HR1.out.keepB HBX.out) HSM.out HD.out).mono ?_
          rintro e wx ⟨rfl, hf, vx, ox, cx, hpx, hnx, hox⟩
          have HY : Hid (RW wx g vx ox cx ∧ PFr g w wx ∧ JB wx w.heap.size (.int .i64 4) (.bool q) (.int .i64 n) (.string s) (.slice (some ⟨b1, o1, none⟩) l.length c1) (.slice A2 keys.length c2) ∧ thenP (nS o c) ((addT [91]).bind ((memT (trV lv) false true l keys).bind (addT [93]))) = thenP (thenP (nS ox cx) (memT (trV lv) false (decide (m + 1 = 0)) (l.drop (m + 1)) (keys.drop (m + 1)))) (addT [93])) :=
            ⟨hpx, H5.out.2.1.trans hf, H5.out.2.2.1.pfr hf hgl, by rw [H5.out.2.2.2, hnx, thenP_bind]; try rfl⟩
          clear hf hpx hnx
          go_wp2_with fail
          go_roundg (l.length - (m + 1))
          case measure => have := HN.out; omega
          case rel => exact ⟨m + 1, vx, ox, cx, by go_num, by omega, rfl, hox, HY.out⟩
        case neg =>
          have hd0 : 0 < m := by omega
          have HEQ0 : Hid (thenP (nS o c) ((addT [91]).bind ((memT (trV lv) false true l keys).bind (addT [93]))) = thenP (thenP (nS om 0) ((addT [44]).bind ((trV lv x).bind (memT (trV lv) false false (l.drop (m + 1)) (keys.drop (m + 1)))))) (addT [93])) := by show _ = _; rw [H.out.2.2.2, HMC.out, decide_eq_false hm0]; rfl
          clear hm0
          go_wp2_with fail
          refine (radd_any g vm om 0 ⟨#[44]⟩ _ H.out.1 hom (by decide)).mono ?_
          rintro e wc ⟨rfl, hf, vc, oc, cc, hpc, hnc, hoc⟩
          have H5 : Hid (RW wc g vc oc cc ∧ PFr g w wc ∧ JB wc w.heap.size (.int .i64 4) (.bool q) (.int .i64 n) (.string s) (.slice (some ⟨b1, o1, none⟩) l.length c1) (.slice A2 keys.length c2) ∧ thenP (nS o c) ((addT [91]).bind ((memT (trV lv) false true l keys).bind (addT [93]))) = thenP (thenP (nS oc cc) ((trV lv x).bind (memT (trV lv) false false (l.drop (m + 1)) (keys.drop (m + 1))))) (addT [93])) := ⟨hpc, H.out.2.1.trans hf, H.out.2.2.1.pfr hf hgl, by rw [HEQ0.out, hnc, thenP_bind]; try rfl⟩
          clear hf hpc hnc k0 k1 k2 k3 k4 k5 kc
          have hblk := H5.out.2.1.toBelow (Nat.le_of_lt hgl)
          have HBX := Lib.hid hblk
          obtain ⟨y0, y1, y2, y3, y4, y5⟩ := H5.out.2.2.1.cell
          obtain ⟨x0, x1, x2, x3, x4, x5⟩ := cells6 (HC1.out.keepB hb1g hblk)
          clear hblk
          go_wp2_with fail
          refine (HI.out B hB g vc oc cc _ _ _ _ _ _ x D _ H5.out.1 hoc (HR1.out.keepB HBX.out) HSM.out HD.out).mono ?_
          rintro e wx ⟨rfl, hf, vx, ox, cx, hpx, hnx, hox⟩
          have HY : Hid (RW wx g vx ox cx ∧ PFr g w wx ∧ JB wx w.heap.size (.int .i64 4) (.bool q) (.int .i64 n) (.string s) (.slice (some ⟨b1, o1, none⟩) l.length c1) (.slice A2 keys.length c2) ∧ thenP (nS o c) ((addT [91]).bind ((memT (trV lv) false true l keys).bind (addT [93]))) = thenP (thenP (nS ox cx) (memT (trV lv) false (decide (m + 1 = 0)) (l.drop (m + 1)) (keys.drop (m + 1)))) (addT [93])) :=
            ⟨hpx, H5.out.2.1.trans hf, H5.out.2.2.1.pfr hf hgl, by rw [H5.out.2.2.2, hnx, thenP_bind]; try rfl⟩
          clear hf hpx hnx
          go_wp2_with fail
          go_roundg (l.length - (m + 1))
          case measure => have := HN.out; omega
          case rel => exact ⟨m + 1, vx, ox, cx, by go_num, by omega, rfl, hox, HY.out⟩

set_option maxRecDepth 100000 in
set_option maxHeartbeats 8000000 in
theorem rmem_obj (lv : Nat) (hlv : lv < 16) (hval : RPValC lv) (B : Nat) (hB : B ≤ 33554432) (g : Nat) (v : Value) (o : List UInt8) (c : Int) (a0 a1 a2 a3 a4 a5 : Value) (q : Bool) (n : Int) (s : ByteArray) (l : List J) (keys : List ByteArray) (D : Int) (w : World)
    (h : RW w g v o c) (ho : o.length ≤ 268435456) (hr : JRep w (fun i => i < g) [a0, a1, a2, a3, a4, a5] (.mk 5 q n s l keys)) (hsm : Sm B (.mk 5 q n s l keys)) (hkl : keys.length = l.length) (hD : D + lv = 16) :
    Calls Tryd.prog 46 #[.pointer (some ⟨g, 0, none⟩), .agg #[a0, a1, a2, a3, a4, a5], .int .i64 D] w (RPost g (thenP (nS o c) ((addT [123]).bind ((memT (trV lv) true true l keys).bind (addT [125])))) w) := by
  cases hsm with
  | mk hl hk hs hks hn hrec =>
    have hgl := h.lt
    obtain ⟨rfl, rfl, rfl, rfl, css, A1, c1, A2, c2, rfl, rfl, hcl, hL, hrc, hK⟩ := rep_parts hr
    have HJ := Lib.hid (JB.new w (.int .i64 5) (.bool q) (.int .i64 n) (.string s) (.slice A1 l.length c1) (.slice A2 keys.length c2))
    have HP1 := Lib.hid (h.alloc (.cells #[.int .i64 5, .bool q, .int .i64 n, .string s, .slice A1 l.length c1, .slice A2 keys.length c2] 25))
    have HF1 : Hid (PFr g w (w.alloc (.cells #[.int .i64 5, .bool q, .int .i64 n, .string s, .slice A1 l.length c1, .slice A2 keys.length c2] 25))) := (PFr.refl g w).alloc _
    have HI := Lib.hid hval
    have HD := Lib.hid hD
    have HL := Lib.hid hL
    have HK := Lib.hid hK
    have HRC := Lib.hid hrc
    have HCL := Lib.hid hcl
    have HREC := Lib.hid hrec
    have HKS := Lib.hid hks
    have hD0 : 0 ≤ D := by omega
    have hD1 : D ≤ 16 := by omega
    have HKL := Lib.hid hkl
    clear hkl
    clear h hval hr hks hn hrec hcl hL hrc hK hD
    go_enter Tryd.func46, Tryd.ntmps46
    go_wp2_with fail
    refine (radd_any g v o c ⟨#[123]⟩ _ HP1.out ho (by decide)).mono ?_
    rintro e w2 ⟨rfl, hf, v2, o2, c2', hp2, hn2, ho2⟩
    have H2 : Hid (RW w2 g v2 o2 c2' ∧ PFr g w w2 ∧ JB w2 w.heap.size (.int .i64 5) (.bool q) (.int .i64 n) (.string s) (.slice A1 l.length c1) (.slice A2 keys.length c2) ∧ thenP (nS o c) ((addT [123]).bind ((memT (trV lv) true true l keys).bind (addT [125]))) = thenP (thenP (nS o2 c2') (memT (trV lv) true (decide (0 = 0)) (l.drop 0) (keys.drop 0))) (addT [125])) :=
      ⟨hp2, HF1.out.trans hf, HJ.out.pfr hf hgl, by rw [thenP_bind, thenP_bind, hn2]; rfl⟩
    clear hf hp2 hn2 HJ HP1 HF1
    go_wp2_with fail
    go_loopg [8] (l.length) (fun nn v8 wr => ∃ (m : Nat) (vm : Value) (om : List UInt8) (cm : Int), v8 = .int .i64 m ∧ m ≤ l.length ∧ nn = l.length - m ∧ om.length ≤ 268435456 ∧ Hid (RW wr g vm om cm ∧ PFr g w wr ∧ JB wr w.heap.size (.int .i64 5) (.bool q) (.int .i64 n) (.string s) (.slice A1 l.length c1) (.slice A2 keys.length c2) ∧ thenP (nS o c) ((addT [123]).bind ((memT (trV lv) true true l keys).bind (addT [125]))) = thenP (thenP (nS om cm) (memT (trV lv) true (decide (m = 0)) (l.drop m) (keys.drop m))) (addT [125])))
    case atStart => exact ⟨0, v2, o2, c2', rfl, Nat.zero_le _, rfl, ho2, H2.out⟩
    case round =>
      obtain ⟨m, vm, om, cm, rfl, hm, hn, hom, H⟩ := hrel
      have HN := Lib.hid hn
      clear hn H2
      have HBL := Lib.hid (H.out.2.1.toBelow (Nat.le_of_lt hgl))
      obtain ⟨k0, k1, k2, k3, k4, k5⟩ := H.out.2.2.1.cell
      have kc := H.out.1.c1
      by_cases hml : m < l.length ∧ cm = 0
      case neg =>
        have HE : Hid (thenP (nS o c) ((addT [123]).bind ((memT (trV lv) true true l keys).bind (addT [125]))) = thenP (nS om cm) (addT [125])) := by
          show _ = _
          rw [H.out.2.2.2]
          by_cases hc0 : cm = 0
          · have : m = l.length := by
              by_cases hmm : m < l.length
              · exact absurd ⟨hmm, hc0⟩ hml
              · omega
            subst this
            rw [List.drop_length]
            show thenP (thenP (nS om cm) (addT [])) _ = _
            rw [thenP_nil]
          · rw [nS_err hc0]; rfl
        by_cases hmm : m < l.length
        case pos =>
          have hcb : (cm == 0) = false := beq_eq_false_iff_ne.2 (fun h => hml ⟨hmm, h⟩)
          clear hml
          go_wp2_with fail
          refine (radd_any g vm om cm ⟨#[125]⟩ _ H.out.1 hom (by decide)).mono ?_
          rintro e w3 ⟨rfl, hf, hst⟩
          have H3 : Hid (PFr g w w3 ∧ ∃ v' o' c', RW w3 g v' o' c' ∧ nS o' c' = thenP (nS o c) ((addT [123]).bind ((memT (trV lv) true true l keys).bind (addT [125]))) ∧ o'.length ≤ 268435456) := ⟨H.out.2.1.trans hf, by rw [HE.out]; exact hst⟩
          clear hf hst
          go_wp2_with fail
          go_end0
          exact ⟨rfl, H3.out.1, H3.out.2⟩
        case neg =>
          clear hml
          go_wp2_with fail
          refine (radd_any g vm om cm ⟨#[125]⟩ _ H.out.1 hom (by decide)).mono ?_
          rintro e w3 ⟨rfl, hf, hst⟩
          have H3 : Hid (PFr g w w3 ∧ ∃ v' o' c', RW w3 g v' o' c' ∧ nS o' c' = thenP (nS o c) ((addT [123]).bind ((memT (trV lv) true true l keys).bind (addT [125]))) ∧ o'.length ≤ 268435456) := ⟨H.out.2.1.trans hf, by rw [HE.out]; exact hst⟩
          clear hf hst
          go_wp2_with fail
          go_end0
          exact ⟨rfl, H3.out.1, H3.out.2⟩
      case pos =>
        obtain ⟨hml, rfl⟩ := hml
        obtain ⟨x, hx⟩ : ∃ t, l[m]? = some t := ⟨_, List.getElem?_eq_getElem hml⟩
        obtain ⟨cs, hcs⟩ : ∃ t, css[m]? = some t := ⟨_, List.getElem?_eq_getElem (by have := HCL.out; omega)⟩
        obtain ⟨b1, o1, rfl, hb1g, _, hc1⟩ := HL.out.elem hcs
        have hr1 := HRC.out m cs x hcs hx
        obtain ⟨x0, x1, x2, x3, x4, x5, rfl⟩ := hr1.six
        have HC1 := Lib.hid hc1
        obtain ⟨z1, z2, z3, z4, B1, l1, m1, B2, l2, m2, rfl, rfl, rfl, rfl, rfl, rfl⟩ := rep_form hr1
        have HR1 := Lib.hid hr1
        have HSM := Lib.hid (HREC.out m x hx)
        have HMC := Lib.hid (mem_cons (val := trV lv) (obj := true) (first := decide (m = 0)) (keys := keys) hx)
        clear hc1 hr1 hcs hx
        have hmk : m < keys.length := by have := HKL.out; omega
        obtain ⟨t, ht⟩ : ∃ t, keys[m]? = some t := ⟨_, List.getElem?_eq_getElem hmk⟩
        have ht2 : (keys.map fun t => [Value.string t])[m]? = some [Value.string t] := by rw [List.getElem?_map, ht]; rfl
        obtain ⟨bk, ok, rfl, hbk, _, hck⟩ := HK.out.elem ht2
        have HCK := Lib.hid hck
        have hts := HKS.out m t ht
        have HKT := Lib.hid (keyT_obj ht)
        have HZ : Hid (((⟨(quoteS t).toArray⟩ : ByteArray) ++ ⟨#[58]⟩ : ByteArray).size ≤ 201326602) := by have := quote_len t; show _ ≤ _; rw [ByteArray.size_append]; show (quoteS t).length + 1 ≤ _; omega
        have hqz : (quoteS t).length ≤ 201326602 := by have := quote_len t; omega
        have hqn : ¬ 9223372036854775807 < (quoteS t).length + 1 := by omega
        have hqs : (⟨(quoteS t).toArray⟩ : ByteArray).size = (quoteS t).length := rfl
        clear hck ht2 ht
        by_cases hm0 : m = 0
        case pos =>
          have hd0 : ¬ 0 < m := by omega
          have H5 : Hid (RW wr g vm om 0 ∧ PFr g w wr ∧ JB wr w.heap.size (.int .i64 5) (.bool q) (.int .i64 n) (.string s) (.slice (some ⟨b1, o1, none⟩) l.length c1) (.slice (some ⟨bk, ok, none⟩) keys.length c2) ∧ thenP (nS o c) ((addT [123]).bind ((memT (trV lv) true true l keys).bind (addT [125]))) = thenP (thenP (nS om 0) ((keyT true (keys.drop m)).bind ((trV lv x).bind (memT (trV lv) true false (l.drop (m + 1)) (keys.drop (m + 1)))))) (addT [125])) := ⟨H.out.1, H.out.2.1, H.out.2.2.1, by rw [H.out.2.2.2, HMC.out, decide_eq_true hm0]; rfl⟩
          clear hm0
          have hblk := H5.out.2.1.toBelow (Nat.le_of_lt hgl)
          obtain ⟨y0, y1, y2, y3, y4, y5⟩ := H5.out.2.2.1.cell
          have gk : wr.cell? ⟨bk, ok + m, none⟩ = some (.string t) := by have := HCK.out.keepB hbk hblk 0 _ rfl; simpa using this
          clear hblk
          go_wp2_with fail
          refine (quote_any t _ (by omega)).mono ?_
          rintro e wq ⟨rfl, hbq⟩
          have HQ : Hid (RW wq g vm om 0 ∧ PFr g w wq ∧ JB wq w.heap.size (.int .i64 5) (.bool q) (.int .i64 n) (.string s) (.slice (some ⟨b1, o1, none⟩) l.length c1) (.slice (some ⟨bk, ok, none⟩) keys.length c2)) := ⟨H5.out.1.below hbq, H5.out.2.1.trans (.below hbq), H5.out.2.2.1.below hbq⟩
          clear hbq gk y0 y1 y2 y3 y4 y5
          go_wp2_with fail
          refine (radd_any g vm om 0 _ _ HQ.out.1 hom HZ.out).mono ?_
          rintro e wu ⟨rfl, hf, vu, ou, cu, hpu, hnu, hou⟩
          have HU : Hid (RW wu g vu ou cu ∧ PFr g w wu ∧ JB wu w.heap.size (.int .i64 5) (.bool q) (.int .i64 n) (.string s) (.slice (some ⟨b1, o1, none⟩) l.length c1) (.slice (some ⟨bk, ok, none⟩) keys.length c2) ∧ thenP (nS o c) ((addT [123]).bind ((memT (trV lv) true true l keys).bind (addT [125]))) = thenP (thenP (nS ou cu) ((trV lv x).bind (memT (trV lv) true false (l.drop (m + 1)) (keys.drop (m + 1))))) (addT [125])) :=
            ⟨hpu, HQ.out.2.1.trans hf, HQ.out.2.2.pfr hf hgl, by rw [H5.out.2.2.2, hnu, thenP_bind, HKT.out]; simp only [ByteArray.data_append, Array.toList_append]; rfl⟩
          clear hpu hnu hf
          have hblk := HU.out.2.1.toBelow (Nat.le_of_lt hgl)
          have HBX := Lib.hid hblk
          obtain ⟨y0, y1, y2, y3, y4, y5⟩ := HU.out.2.2.1.cell
          obtain ⟨x0, x1, x2, x3, x4, x5⟩ := cells6 (HC1.out.keepB hb1g hblk)
          clear hblk
          go_wp2_with fail
          refine (HI.out B hB g vu ou cu _ _ _ _ _ _ x D _ HU.out.1 hou (HR1.out.keepB HBX.out) HSM.out HD.out).mono ?_
          rintro e wx ⟨rfl, hf, vx, ox, cx, hpx, hnx, hox⟩
          have HY : Hid (RW wx g vx ox cx ∧ PFr g w wx ∧ JB wx w.heap.size (.int .i64 5) (.bool q) (.int .i64 n) (.string s) (.slice (some ⟨b1, o1, none⟩) l.length c1) (.slice (some ⟨bk, ok, none⟩) keys.length c2) ∧ thenP (nS o c) ((addT [123]).bind ((memT (trV lv) true true l keys).bind (addT [125]))) = thenP (thenP (nS ox cx) (memT (trV lv) true (decide (m + 1 = 0)) (l.drop (m + 1)) (keys.drop (m + 1)))) (addT [125])) :=
            ⟨hpx, HU.out.2.1.trans hf, HU.out.2.2.1.pfr hf hgl, by rw [HU.out.2.2.2, hnx, thenP_bind]; try rfl⟩
          clear hf hpx hnx
          go_wp2_with fail
          go_roundg (l.length - (m + 1))
          case measure => have := HN.out; omega
          case rel => exact ⟨m + 1, vx, ox, cx, by go_num, by omega, rfl, hox, HY.out⟩
        case neg =>
          have hd0 : 0 < m := by omega
          have HEQ0 : Hid (thenP (nS o c) ((addT [123]).bind ((memT (trV lv) true true l keys).bind (addT [125]))) = thenP (thenP (nS om 0) ((addT [44]).bind ((keyT true (keys.drop m)).bind ((trV lv x).bind (memT (trV lv) true false (l.drop (m + 1)) (keys.drop (m + 1))))))) (addT [125])) := by show _ = _; rw [H.out.2.2.2, HMC.out, decide_eq_false hm0]; rfl
          clear hm0
          go_wp2_with fail
          refine (radd_any g vm om 0 ⟨#[44]⟩ _ H.out.1 hom (by decide)).mono ?_
          rintro e wc ⟨rfl, hf, vc, oc, cc, hpc, hnc, hoc⟩
          have H5 : Hid (RW wc g vc oc cc ∧ PFr g w wc ∧ JB wc w.heap.size (.int .i64 5) (.bool q) (.int .i64 n) (.string s) (.slice (some ⟨b1, o1, none⟩) l.length c1) (.slice (some ⟨bk, ok, none⟩) keys.length c2) ∧ thenP (nS o c) ((addT [123]).bind ((memT (trV lv) true true l keys).bind (addT [125]))) = thenP (thenP (nS oc cc) ((keyT true (keys.drop m)).bind ((trV lv x).bind (memT (trV lv) true false (l.drop (m + 1)) (keys.drop (m + 1)))))) (addT [125])) := ⟨hpc, H.out.2.1.trans hf, H.out.2.2.1.pfr hf hgl, by rw [HEQ0.out, hnc, thenP_bind]; try rfl⟩
          clear hf hpc hnc k0 k1 k2 k3 k4 k5 kc
          have hblk := H5.out.2.1.toBelow (Nat.le_of_lt hgl)
          obtain ⟨y0, y1, y2, y3, y4, y5⟩ := H5.out.2.2.1.cell
          have gk : wc.cell? ⟨bk, ok + m, none⟩ = some (.string t) := by have := HCK.out.keepB hbk hblk 0 _ rfl; simpa using this
          clear hblk
          go_wp2_with fail
          refine (quote_any t _ (by omega)).mono ?_
          rintro e wq ⟨rfl, hbq⟩
          have HQ : Hid (RW wq g vc oc cc ∧ PFr g w wq ∧ JB wq w.heap.size (.int .i64 5) (.bool q) (.int .i64 n) (.string s) (.slice (some ⟨b1, o1, none⟩) l.length c1) (.slice (some ⟨bk, ok, none⟩) keys.length c2)) := ⟨H5.out.1.below hbq, H5.out.2.1.trans (.below hbq), H5.out.2.2.1.below hbq⟩
          clear hbq gk y0 y1 y2 y3 y4 y5
          go_wp2_with fail
          refine (radd_any g vc oc cc _ _ HQ.out.1 hoc HZ.out).mono ?_
          rintro e wu ⟨rfl, hf, vu, ou, cu, hpu, hnu, hou⟩
          have HU : Hid (RW wu g vu ou cu ∧ PFr g w wu ∧ JB wu w.heap.size (.int .i64 5) (.bool q) (.int .i64 n) (.string s) (.slice (some ⟨b1, o1, none⟩) l.length c1) (.slice (some ⟨bk, ok, none⟩) keys.length c2) ∧ thenP (nS o c) ((addT [123]).bind ((memT (trV lv) true true l keys).bind (addT [125]))) = thenP (thenP (nS ou cu) ((trV lv x).bind (memT (trV lv) true false (l.drop (m + 1)) (keys.drop (m + 1))))) (addT [125])) :=
            ⟨hpu, HQ.out.2.1.trans hf, HQ.out.2.2.pfr hf hgl, by rw [H5.out.2.2.2, hnu, thenP_bind, HKT.out]; simp only [ByteArray.data_append, Array.toList_append]; rfl⟩
          clear hpu hnu hf
          have hblk := HU.out.2.1.toBelow (Nat.le_of_lt hgl)
          have HBX := Lib.hid hblk
          obtain ⟨y0, y1, y2, y3, y4, y5⟩ := HU.out.2.2.1.cell
          obtain ⟨x0, x1, x2, x3, x4, x5⟩ := cells6 (HC1.out.keepB hb1g hblk)
          clear hblk
          go_wp2_with fail
          refine (HI.out B hB g vu ou cu _ _ _ _ _ _ x D _ HU.out.1 hou (HR1.out.keepB HBX.out) HSM.out HD.out).mono ?_
          rintro e wx ⟨rfl, hf, vx, ox, cx, hpx, hnx, hox⟩
          have HY : Hid (RW wx g vx ox cx ∧ PFr g w wx ∧ JB wx w.heap.size (.int .i64 5) (.bool q) (.int .i64 n) (.string s) (.slice (some ⟨b1, o1, none⟩) l.length c1) (.slice (some ⟨bk, ok, none⟩) keys.length c2) ∧ thenP (nS o c) ((addT [123]).bind ((memT (trV lv) true true l keys).bind (addT [125]))) = thenP (thenP (nS ox cx) (memT (trV lv) true (decide (m + 1 = 0)) (l.drop (m + 1)) (keys.drop (m + 1)))) (addT [125])) :=
            ⟨hpx, HU.out.2.1.trans hf, HU.out.2.2.1.pfr hf hgl, by rw [HU.out.2.2.2, hnx, thenP_bind]; try rfl⟩
          clear hf hpx hnx
          go_wp2_with fail
          go_roundg (l.length - (m + 1))
          case measure => have := HN.out; omega
          case rel => exact ⟨m + 1, vx, ox, cx, by go_num, by omega, rfl, hox, HY.out⟩

theorem rmem_of (lv : Nat) (hlv : lv < 16) (hval : RPValC lv) : RMemC lv := by
  intro B hB g v o c a0 a1 a2 a3 a4 a5 k q n s l keys D w h ho hr hsm hk hD
  rcases hk with rfl | ⟨rfl, hkl⟩
  · exact rmem_list lv hlv hval B hB g v o c a0 a1 a2 a3 a4 a5 q n s l keys D w h ho hr hsm hD
  · exact rmem_obj lv hlv hval B hB g v o c a0 a1 a2 a3 a4 a5 q n s l keys D w h ho hr hsm hkl hD
theorem rpvalue_all : ∀ lv, lv ≤ 16 → RPValC lv
  | 0, h => rpvalue_of 0 h (fun _ e => by cases e)
  | lv + 1, h => rpvalue_of (lv + 1) h (fun lv' e => by injection e with e; subst e; exact rmem_of lv (by omega) (rpvalue_all lv (by omega)))

end Go.Proofs.YtbhnfehpbbibbaaDoor
