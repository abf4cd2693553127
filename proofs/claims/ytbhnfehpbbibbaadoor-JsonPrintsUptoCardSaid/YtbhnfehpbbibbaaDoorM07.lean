/- Package json's parser: value, from what inner comes to. Package json's parser: what holds of the list or object that is being read, round by round; that each value that is read is not empty. -/
import Derived.Test.YtbhnfehpbbibbaaDoorM06
import Derived.Deep.AppendLies

namespace Go.Proofs.YtbhnfehpbbibbaaDoor
open Go.RowKit

theorem own_base {w : World} {base base' e sz n : Nat} {v : Value} {xs : List Value} (h : w.ownsRow base e sz v n xs) (hb : base' ≤ base) : w.ownsRow base' e sz v n xs := by
  obtain ⟨h1, h2⟩ := h
  refine ⟨h1, ?_⟩
  rcases h2 with h2 | ⟨g, cap, cur, hv, hg, r⟩
  · exact .inl h2
  · exact .inr ⟨g, cap, cur, hv, Nat.le_trans hb hg, r⟩
theorem own_only {w w' : World} {base e sz n R : Nat} {v : Value} {xs : List Value} (h : w.ownsRow base e sz v n xs) (ho : Only R w w') (hR : R < base) : w'.ownsRow base e sz v n xs :=
  World.ownsRow.kept h (row := some R) ⟨ho.os, ho.tape, ho.output, by rw [ho.size]; exact Nat.le_refl _, fun k _ hk => ho.block k (fun e => hk (by rw [e]))⟩ (.inr (fun e => by have := (World.ownsRow.lt h R e).1; omega))
theorem JRep.only {w w' : World} {base base' R : Nat} {cs : List Value} {x : J} (h : JRep w (fun k => base ≤ k) cs x) (ho : Only R w w') (hR : R < base) (hb : base' ≤ base) : JRep w' (fun k => base' ≤ k) cs x :=
  h.mono fun b hb1 _ => ⟨Nat.le_trans hb hb1, ho.block b (by omega)⟩
theorem JOwn.only {w w' : World} {base base' R : Nat} {cs : List Value} (h : JOwn w base cs) (ho : Only R w w') (hR : R < base) (hb : base' ≤ base) : JOwn w' base' cs := by
  obtain ⟨Lv, Kv, nL, xL, nK, xK, h1, h2, h3, h4⟩ := h
  exact ⟨Lv, Kv, nL, xL, nK, xK, h1, h2, own_base (own_only h3 ho hR) hb, own_base (own_only h4 ho hR) hb⟩

theorem JOwn.but {w w' : World} {base g : Nat} {cs : List Value} (h : JOwn w base cs) (hb : But g w w') (hg : g < base) : JOwn w' base cs := by
  obtain ⟨Lv, Kv, nL, xL, nK, xK, h1, h2, h3, h4⟩ := h
  have key : ∀ {e sz n : Nat} {v : Value} {xs : List Value}, w.ownsRow base e sz v n xs → w'.ownsRow base e sz v n xs := fun h => World.ownsRow.kept h hb.grownBy (.inr (fun e => by have := (World.ownsRow.lt h g e).1; omega))
  exact ⟨Lv, Kv, nL, xL, nK, xK, h1, h2, key h3, key h4⟩

def InnerC (lv : Nat) : Prop := ∀ (g : Nat) (s : ByteArray) (i : Nat) (obj : Bool) (C D : Int) (w : World), s.size ≤ 65536 → i < s.size → PS w g s i → C = (if obj then 123 else 91) → (bt s i : Int) = C → D + lv = 17 →
  Calls Tryd.prog 29 #[.pointer (some ⟨g, 0, none⟩), .int .u8 C, .int .i64 D] w (JPost g s (innerS s lv i obj) w)
def ValueC (lv : Nat) : Prop := ∀ (g : Nat) (s : ByteArray) (i : Nat) (D : Int) (w : World), s.size ≤ 65536 → i ≤ s.size → PS w g s i → D + lv = 16 →
  Calls Tryd.prog 16 #[.pointer (some ⟨g, 0, none⟩), .int .i64 D] w (JPost g s (valS s lv i) w)

set_option maxRecDepth 100000 in
set_option maxHeartbeats 8000000 in
theorem value_of (lv : Nat) (hlv : lv ≤ 16) (hin : InnerC lv) : ValueC lv := by
  intro g s i D w hs0 hi h hD
  have hs : s.size ≤ 140737488351232 := by omega
  have HIN := Lib.hid hin
  have HP := Lib.hid h
  have hgl := h.lt
  have HV := Lib.hid (valS_eq s lv i)
  have HD := Lib.hid hD
  have hD0 : 0 ≤ D := by omega
  have hD1 : D ≤ 16 := by omega
  clear h hin hD
  go_enter Tryd.func16, Tryd.ntmps16
  go_wp2_with fail
  refine (next_at g s i _ hs (HP.out.alloc _)).mono ?_
  rintro e w1 ⟨C, rfl, HC, ⟨hC0, hC1⟩, hp, hb⟩
  have H1 : Hid (PS w1 g s i ∧ But g w w1 ∧ JB w1 w.heap.size (.int .i64 0) (.bool false) (.int .i64 0) (.string ⟨#[]⟩) (.slice none 0 0) (.slice none 0 0)) := ⟨hp, ((But.refl g w).alloc _).trans hb, JB.but (JB.new w _ _ _ _ _ _) hb (by omega)⟩
  clear hp hb
  by_cases c1 : C = 110
  · subst c1
    have hb1 : bt s i = 110 := by have := HC.out; omega
    have HV1 : Hid (valS s lv i = if wordB s i ⟨#[110, 117, 108, 108]⟩ then .ok (.null, i + 4) else .error 300) := by show _ = _; rw [HV.out]; simp [hb1]
    clear hb1
    cases hwd : wordB s i ⟨#[110, 117, 108, 108]⟩ with
    | false =>
      have HE : Hid (valS s lv i = .error 300) := by show _ = _; rw [HV1.out, hwd]; rfl
      have HW := Lib.hid hwd
      clear hwd
      go_wp2_with fail
      refine (word_err g s _ i _ hs (by decide) H1.out.1 HW.out).mono ?_
      rintro e w3 ⟨rfl, hb⟩
      exact ⟨rfl, JPost.no HE.out ⟨rfl, H1.out.2.1.trans hb⟩⟩
    | true =>
      have HE : Hid (valS s lv i = .ok (.null, i + 4)) := by show _ = _; rw [HV1.out, hwd]; rfl
      have HW := Lib.hid hwd
      clear hwd
      go_wp2_with fail
      refine (word_ok g s _ i _ hs (by decide) H1.out.1 HW.out).mono ?_
      rintro e w3 ⟨rfl, hp, hb⟩
      have H3 : Hid (PS w3 g s (i + 4) ∧ But g w w3 ∧ JB w3 w.heap.size (.int .i64 0) (.bool false) (.int .i64 0) (.string ⟨#[]⟩) (.slice none 0 0) (.slice none 0 0)) := ⟨hp, H1.out.2.1.trans hb, H1.out.2.2.but hb (by omega)⟩
      clear hp hb
      obtain ⟨k0, k1, k2, k3, k4, k5⟩ := H3.out.2.2.cell
      have f0 := H3.out.2.2.frozen 0
      have f1 := H3.out.2.2.frozen 1
      have f2 := H3.out.2.2.frozen 2
      have f3 := H3.out.2.2.frozen 3
      have f4 := H3.out.2.2.frozen 4
      have f5 := H3.out.2.2.frozen 5
      go_wp2_with fail
      refine ret_json Tryd.results16 rfl H3.out.2.2 fun W ho hj => ?_
      exact JPost.yes HE.out ⟨rfl, H3.out.1.only ho (by omega), H3.out.2.1.only ho (Nat.le_refl _)⟩ (JRep.nils _ _ _ _ _ _) (JOwn.nils _ _ _ _ _ _)
  · have n2 := c1
    clear c1
    by_cases c1 : C = 116
    · subst c1
      have hb1 : bt s i = 116 := by have := HC.out; omega
      have HV1 : Hid (valS s lv i = if wordB s i ⟨#[116, 114, 117, 101]⟩ then .ok (.mk 1 true 0 ⟨#[]⟩ [] [], i + 4) else .error 300) := by show _ = _; rw [HV.out]; simp [hb1]
      clear hb1
      cases hwd : wordB s i ⟨#[116, 114, 117, 101]⟩ with
      | false =>
        have HE : Hid (valS s lv i = .error 300) := by show _ = _; rw [HV1.out, hwd]; rfl
        have HW := Lib.hid hwd
        clear hwd
        go_wp2_with fail
        refine (word_err g s _ i _ hs (by decide) H1.out.1 HW.out).mono ?_
        rintro e w3 ⟨rfl, hb⟩
        exact ⟨rfl, JPost.no HE.out ⟨rfl, H1.out.2.1.trans hb⟩⟩
      | true =>
        have HE : Hid (valS s lv i = .ok (.mk 1 true 0 ⟨#[]⟩ [] [], i + 4)) := by show _ = _; rw [HV1.out, hwd]; rfl
        have HW := Lib.hid hwd
        clear hwd
        go_wp2_with fail
        refine (word_ok g s _ i _ hs (by decide) H1.out.1 HW.out).mono ?_
        rintro e w3 ⟨rfl, hp, hb⟩
        have H3 : Hid (PS w3 g s (i + 4) ∧ But g w w3 ∧ JB w3 w.heap.size (.int .i64 0) (.bool false) (.int .i64 0) (.string ⟨#[]⟩) (.slice none 0 0) (.slice none 0 0)) := ⟨hp, H1.out.2.1.trans hb, H1.out.2.2.but hb (by omega)⟩
        clear hp hb
        obtain ⟨k0, k1, k2, k3, k4, k5⟩ := H3.out.2.2.cell
        have f0 := H3.out.2.2.frozen 0
        have f1 := H3.out.2.2.frozen 1
        have f2 := H3.out.2.2.frozen 2
        have f3 := H3.out.2.2.frozen 3
        have f4 := H3.out.2.2.frozen 4
        have f5 := H3.out.2.2.frozen 5
        go_wp2_with fail
        refine ret_json Tryd.results16 rfl H3.out.2.2 fun W ho hj => ?_
        exact JPost.yes HE.out ⟨rfl, H3.out.1.only ho (by omega), H3.out.2.1.only ho (Nat.le_refl _)⟩ (JRep.nils _ _ _ _ _ _) (JOwn.nils _ _ _ _ _ _)
    · have n4 := c1
      clear c1
      by_cases c1 : C = 102
      · subst c1
        have hb1 : bt s i = 102 := by have := HC.out; omega
        have HV1 : Hid (valS s lv i = if wordB s i ⟨#[102, 97, 108, 115, 101]⟩ then .ok (.mk 1 false 0 ⟨#[]⟩ [] [], i + 5) else .error 300) := by show _ = _; rw [HV.out]; simp [hb1]
        clear hb1
        cases hwd : wordB s i ⟨#[102, 97, 108, 115, 101]⟩ with
        | false =>
          have HE : Hid (valS s lv i = .error 300) := by show _ = _; rw [HV1.out, hwd]; rfl
          have HW := Lib.hid hwd
          clear hwd
          go_wp2_with fail
          refine (word_err g s _ i _ hs (by decide) H1.out.1 HW.out).mono ?_
          rintro e w3 ⟨rfl, hb⟩
          exact ⟨rfl, JPost.no HE.out ⟨rfl, H1.out.2.1.trans hb⟩⟩
        | true =>
          have HE : Hid (valS s lv i = .ok (.mk 1 false 0 ⟨#[]⟩ [] [], i + 5)) := by show _ = _; rw [HV1.out, hwd]; rfl
          have HW := Lib.hid hwd
          clear hwd
          go_wp2_with fail
          refine (word_ok g s _ i _ hs (by decide) H1.out.1 HW.out).mono ?_
          rintro e w3 ⟨rfl, hp, hb⟩
          have H3 : Hid (PS w3 g s (i + 5) ∧ But g w w3 ∧ JB w3 w.heap.size (.int .i64 0) (.bool false) (.int .i64 0) (.string ⟨#[]⟩) (.slice none 0 0) (.slice none 0 0)) := ⟨hp, H1.out.2.1.trans hb, H1.out.2.2.but hb (by omega)⟩
          clear hp hb
          obtain ⟨k0, k1, k2, k3, k4, k5⟩ := H3.out.2.2.cell
          have f0 := H3.out.2.2.frozen 0
          have f1 := H3.out.2.2.frozen 1
          have f2 := H3.out.2.2.frozen 2
          have f3 := H3.out.2.2.frozen 3
          have f4 := H3.out.2.2.frozen 4
          have f5 := H3.out.2.2.frozen 5
          go_wp2_with fail
          refine ret_json Tryd.results16 rfl H3.out.2.2 fun W ho hj => ?_
          exact JPost.yes HE.out ⟨rfl, H3.out.1.only ho (by omega), H3.out.2.1.only ho (Nat.le_refl _)⟩ (JRep.nils _ _ _ _ _ _) (JOwn.nils _ _ _ _ _ _)
      · have n6 := c1
        clear c1
        by_cases c1 : C = 34
        · subst c1
          have hb1 : bt s i = 34 := by have := HC.out; omega
          have HV1 : Hid (valS s lv i = match textS s i with | none => .error 300 | some (t, j) => .ok (.mk 3 false 0 t [] [], j)) := by show _ = _; rw [HV.out]; unfold textS; simp [hb1]; rfl
          clear hb1
          go_wp2_with fail
          refine (text_any g s i _ hs hi H1.out.1).mono ?_
          intro e w3 hx
          have HX := Lib.hid hx
          clear hx
          cases ht : textS s i with
          | none =>
            have hq := HX.out.at_none ht
            have HE : Hid (valS s lv i = .error 300) := by show _ = _; rw [HV1.out, ht]
            obtain ⟨rfl, hb⟩ := hq
            exact ⟨rfl, JPost.no HE.out ⟨rfl, H1.out.2.1.trans hb⟩⟩
          | some p =>
            obtain ⟨t, j⟩ := p
            have hq := HX.out.at_some ht
            have HE : Hid (valS s lv i = .ok (.mk 3 false 0 t [] [], j)) := by show _ = _; rw [HV1.out, ht]
            obtain ⟨rfl, hp, hb⟩ := hq
            have H3 : Hid (PS w3 g s j ∧ But g w w3 ∧ JB w3 w.heap.size (.int .i64 0) (.bool false) (.int .i64 0) (.string ⟨#[]⟩) (.slice none 0 0) (.slice none 0 0)) := ⟨hp, H1.out.2.1.trans hb, H1.out.2.2.but hb (by omega)⟩
            clear hp hb ht HX
            obtain ⟨k0, k1, k2, k3, k4, k5⟩ := H3.out.2.2.cell
            have f0 := H3.out.2.2.frozen 0
            have f1 := H3.out.2.2.frozen 1
            have f2 := H3.out.2.2.frozen 2
            have f3 := H3.out.2.2.frozen 3
            have f4 := H3.out.2.2.frozen 4
            have f5 := H3.out.2.2.frozen 5
            go_wp2_with fail
            refine ret_json Tryd.results16 rfl H3.out.2.2 fun W ho hj => ?_
            exact JPost.yes HE.out ⟨rfl, H3.out.1.only ho (by omega), H3.out.2.1.only ho (Nat.le_refl _)⟩ (JRep.nils _ _ _ _ _ _) (JOwn.nils _ _ _ _ _ _)
        · have n8 := c1
          clear c1
          by_cases c1 : C = 91
          · subst c1
            have hb1 : bt s i = 91 := by have := HC.out; omega
            have hil : i < s.size := bt_in (by omega)
            have HV1 : Hid (valS s lv i = innerS s lv i false) := by show _ = _; rw [HV.out]; simp [hb1]
            clear hb1
            go_wp2_with fail
            refine (HIN.out g s i false 91 (D + 1) _ hs0 hil H1.out.1 rfl HC.out.symm (by have := HD.out; omega)).mono ?_
            intro e w3 hx
            have HX := Lib.hid hx
            have hsz : w.heap.size < w1.heap.size := H1.out.2.2.lt
            clear hx
            cases ht : innerS s lv i false with
            | error c =>
              have hq := HX.out.at_error ht
              have HE : Hid (valS s lv i = .error c) := by show _ = _; rw [HV1.out, ht]
              obtain ⟨rfl, hb⟩ := hq
              exact ⟨rfl, JPost.no HE.out ⟨rfl, H1.out.2.1.trans hb⟩⟩
            | ok p =>
              obtain ⟨x, j⟩ := p
              obtain ⟨a, b, c, d, Lv, Kv, ⟨rfl, hp, hb⟩, hr, hw⟩ := HX.out.at_ok ht
              have HE : Hid (valS s lv i = .ok (x, j)) := by show _ = _; rw [HV1.out, ht]
              have H3 : Hid (PS w3 g s j ∧ But g w w3 ∧ JB w3 w.heap.size (.int .i64 0) (.bool false) (.int .i64 0) (.string ⟨#[]⟩) (.slice none 0 0) (.slice none 0 0)) := ⟨hp, H1.out.2.1.trans hb, H1.out.2.2.but hb (by omega)⟩
              obtain ⟨z1, z2, z3, z4, A1, l1, m1, A2, l2, m2, rfl, rfl, rfl, rfl, rfl, rfl⟩ := rep_form hr
              have HR := Lib.hid hr
              have HW := Lib.hid hw
              clear hp hb ht HX hr hw
              obtain ⟨k0, k1, k2, k3, k4, k5⟩ := H3.out.2.2.cell
              have f0 := H3.out.2.2.frozen 0
              have f1 := H3.out.2.2.frozen 1
              have f2 := H3.out.2.2.frozen 2
              have f3 := H3.out.2.2.frozen 3
              have f4 := H3.out.2.2.frozen 4
              have f5 := H3.out.2.2.frozen 5
              go_wp2_with fail
              refine ret_json Tryd.results16 rfl H3.out.2.2 fun W ho hj => ?_
              exact JPost.yes HE.out ⟨rfl, H3.out.1.only ho (by omega), H3.out.2.1.only ho (Nat.le_refl _)⟩ (HR.out.only ho hsz (by omega)) (HW.out.only ho hsz (by omega))
          · have n10 := c1
            clear c1
            by_cases c1 : C = 123
            · subst c1
              have hb1 : bt s i = 123 := by have := HC.out; omega
              have hil : i < s.size := bt_in (by omega)
              have HV1 : Hid (valS s lv i = innerS s lv i true) := by show _ = _; rw [HV.out]; simp [hb1]
              clear hb1
              go_wp2_with fail
              refine (HIN.out g s i true 123 (D + 1) _ hs0 hil H1.out.1 rfl HC.out.symm (by have := HD.out; omega)).mono ?_
              intro e w3 hx
              have HX := Lib.hid hx
              have hsz : w.heap.size < w1.heap.size := H1.out.2.2.lt
              clear hx
              cases ht : innerS s lv i true with
              | error c =>
                have hq := HX.out.at_error ht
                have HE : Hid (valS s lv i = .error c) := by show _ = _; rw [HV1.out, ht]
                obtain ⟨rfl, hb⟩ := hq
                exact ⟨rfl, JPost.no HE.out ⟨rfl, H1.out.2.1.trans hb⟩⟩
              | ok p =>
                obtain ⟨x, j⟩ := p
                obtain ⟨a, b, c, d, Lv, Kv, ⟨rfl, hp, hb⟩, hr, hw⟩ := HX.out.at_ok ht
                have HE : Hid (valS s lv i = .ok (x, j)) := by show _ = _; rw [HV1.out, ht]
                have H3 : Hid (PS w3 g s j ∧ But g w w3 ∧ JB w3 w.heap.size (.int .i64 0) (.bool false) (.int .i64 0) (.string ⟨#[]⟩) (.slice none 0 0) (.slice none 0 0)) := ⟨hp, H1.out.2.1.trans hb, H1.out.2.2.but hb (by omega)⟩
                obtain ⟨z1, z2, z3, z4, A1, l1, m1, A2, l2, m2, rfl, rfl, rfl, rfl, rfl, rfl⟩ := rep_form hr
                have HR := Lib.hid hr
                have HW := Lib.hid hw
                clear hp hb ht HX hr hw
                obtain ⟨k0, k1, k2, k3, k4, k5⟩ := H3.out.2.2.cell
                have f0 := H3.out.2.2.frozen 0
                have f1 := H3.out.2.2.frozen 1
                have f2 := H3.out.2.2.frozen 2
                have f3 := H3.out.2.2.frozen 3
                have f4 := H3.out.2.2.frozen 4
                have f5 := H3.out.2.2.frozen 5
                go_wp2_with fail
                refine ret_json Tryd.results16 rfl H3.out.2.2 fun W ho hj => ?_
                exact JPost.yes HE.out ⟨rfl, H3.out.1.only ho (by omega), H3.out.2.1.only ho (Nat.le_refl _)⟩ (HR.out.only ho hsz (by omega)) (HW.out.only ho hsz (by omega))
            · have n12 := c1
              clear c1
              have HV1 : Hid (valS s lv i = match numS s i with | none => .error 300 | some (n, j) => .ok (.mk 2 false n ⟨#[]⟩ [] [], j)) := by
                show _ = _
                have := HC.out
                rw [HV.out, if_neg (by omega), if_neg (by omega), if_neg (by omega), if_neg (by omega), if_neg (by omega)]
                rfl
              have m1 : (C == 91) = false := beq_eq_false_iff_ne.2 (by omega)
              have m2 : (C == 123) = false := beq_eq_false_iff_ne.2 (by omega)
              go_wp2_with fail
              refine (number_any g s i _ hs hi H1.out.1).mono ?_
              intro e w3 hx
              have HX := Lib.hid hx
              clear hx
              cases ht : numS s i with
              | none =>
                have hq := HX.out.at_none ht
                have HE : Hid (valS s lv i = .error 300) := by show _ = _; rw [HV1.out, ht]
                obtain ⟨rfl, hb⟩ := hq
                exact ⟨rfl, JPost.no HE.out ⟨rfl, H1.out.2.1.trans hb⟩⟩
              | some p =>
                obtain ⟨n, j⟩ := p
                have hq := HX.out.at_some ht
                have HE : Hid (valS s lv i = .ok (.mk 2 false n ⟨#[]⟩ [] [], j)) := by show _ = _; rw [HV1.out, ht]
                obtain ⟨rfl, hp, hb⟩ := hq
                have H3 : Hid (PS w3 g s j ∧ But g w w3 ∧ JB w3 w.heap.size (.int .i64 0) (.bool false) (.int .i64 0) (.string ⟨#[]⟩) (.slice none 0 0) (.slice none 0 0)) := ⟨hp, H1.out.2.1.trans hb, H1.out.2.2.but hb (by omega)⟩
                clear hp hb ht HX
                obtain ⟨k0, k1, k2, k3, k4, k5⟩ := H3.out.2.2.cell
                have f0 := H3.out.2.2.frozen 0
                have f1 := H3.out.2.2.frozen 1
                have f2 := H3.out.2.2.frozen 2
                have f3 := H3.out.2.2.frozen 3
                have f4 := H3.out.2.2.frozen 4
                have f5 := H3.out.2.2.frozen 5
                go_wp2_with fail
                refine ret_json Tryd.results16 rfl H3.out.2.2 fun W ho hj => ?_
                exact JPost.yes HE.out ⟨rfl, H3.out.1.only ho (by omega), H3.out.2.1.only ho (Nat.le_refl _)⟩ (JRep.nils _ _ _ _ _ _) (JOwn.nils _ _ _ _ _ _)

end Go.Proofs.YtbhnfehpbbibbaaDoor

namespace Go.Proofs.YtbhnfehpbbibbaaDoor
open Go.RowKit

/-! ### plain: what is read lies in the text -/
theorem txtF_in {s : ByteArray} : ∀ {k i j : Nat} {acc : List UInt8} {t : ByteArray}, txtF s k i acc = some (t, j) → i < j ∧ j ≤ s.size ∧ t.size + i ≤ acc.length + j
  | 0, i, j, acc, t, h => by simp [txtF] at h
  | k + 1, i, j, acc, t, h => by
    unfold txtF at h
    split at h
    · rename_i hq
      have hi := bt_in (s := s) (i := i) (by omega)
      injection h with h; injection h with h1 h2
      subst h1
      have : (⟨acc.toArray⟩ : ByteArray).size = acc.length := by simp [ByteArray.size]
      omega
    · split at h
      · rename_i hq
        cases he : escS s (i + 1) with
        | none => rw [he] at h; cases h
        | some p =>
          obtain ⟨e, j1⟩ := p
          rw [he] at h
          have h1 := escS_in he
          have h2 := txtF_in h
          rw [List.length_append] at h2
          have : e.data.toList.length = e.size := rfl
          omega
      · split at h
        · cases h
        · rename_i hn
          have h1 := runeS_le s i
          have h2 := txtF_in h
          rw [List.length_append] at h2
          have : (s.extract i (i + (runeS s i).2)).data.toList.length = (runeS s i).2 := extract_size (by omega)
          omega
theorem textS_in {s : ByteArray} {i j : Nat} {t : ByteArray} (h : textS s i = some (t, j)) : i < j ∧ j ≤ s.size ∧ t.size ≤ j := by
  unfold textS at h
  split at h
  · have := txtF_in h; simp at this; omega
  · cases h
theorem digF_le (s : ByteArray) : ∀ k i x, (digF s k i x).2 ≤ i + k
  | 0, i, x => Nat.le_refl _
  | k + 1, i, x => by
    unfold digF; split
    · have := digF_le s k (i + 1) (10 * x + (bt s i - 48)); omega
    · simp
theorem numS_in {s : ByteArray} {i j : Nat} {n : Int} (h : numS s i = some (n, j)) (hi : i ≤ s.size) : i < j ∧ j ≤ s.size := by
  obtain ⟨f, hf⟩ : ∃ f, f = if bt s i = 45 then i + 1 else i := ⟨_, rfl⟩
  obtain ⟨x, k, hd⟩ : ∃ x k, digS s f 0 = (x, k) := ⟨_, _, rfl⟩
  rw [num_eq hf hd] at h
  have hfl : f ≤ s.size ∧ i ≤ f := by
    rw [hf]; split
    · have := bt_in (s := s) (i := i) (by omega); omega
    · omega
  have h1 := digF_le s (s.size - f) f 0
  have h2 := (digF_ge s (s.size - f) f 0).2
  have e2 : (digF s (s.size - f) f 0).2 = k := congrArg Prod.snd hd
  rw [e2] at h1 h2
  by_cases hn : k = f ∨ (f + 1 < k ∧ bt s f = 48) ∨ (bt s i = 45 ∧ x = 0)
  · rw [if_pos hn] at h; cases h
  · rw [if_neg hn] at h
    have hj : j = k := by
      split at h
      · split at h
        · injection h with h; injection h with _ h; exact h.symm
        · cases h
      · split at h
        · injection h with h; injection h with _ h; exact h.symm
        · cases h
    omega
/-- the members behind place i1: one, and the rest -/
def memS (s : ByteArray) (val : Nat → Except Int (J × Nat)) (obj : Bool) (f i1 : Nat) (keys : List ByteArray) (l : List J) : Except Int (J × Nat) :=
  if obj then
    match textS s i1 with
    | none => .error 300
    | some (key, i2) =>
      if memB key keys then .error 300
      else if bt s (whS s i2) = 58 then
        match val (whS s (whS s i2 + 1)) with
        | .error e => .error e
        | .ok (j, i3) => seqS s val obj f false (whS s i3) (keys ++ [key]) (l ++ [j])
      else .error 300
  else
    match val i1 with
    | .error e => .error e
    | .ok (j, i3) => seqS s val obj f false (whS s i3) keys (l ++ [j])
theorem seq_eq (s : ByteArray) (val : Nat → Except Int (J × Nat)) (obj : Bool) (f : Nat) (first : Bool) (i : Nat) (keys : List ByteArray) (l : List J) :
    seqS s val obj (f + 1) first i keys l =
      if bt s i = (if obj then 125 else 93) then .ok (.mk (if obj then 5 else 4) false 0 ⟨#[]⟩ l keys, i + 1)
      else if !first && bt s i != 44 then .error 300
      else memS s val obj f (if first then i else whS s (i + 1)) keys l := by
  rw [seqS]
  unfold memS textS
  cases obj
  · rfl
  · by_cases h34 : bt s (if first then i else whS s (i + 1)) = 34
    · simp only [if_true, h34]
      rfl
    · simp only [if_true, h34, if_false]
theorem seqS_in {s : ByteArray} {val : Nat → Except Int (J × Nat)} {obj : Bool} (hv : ∀ i x j, i ≤ s.size → val i = .ok (x, j) → i < j ∧ j ≤ s.size) : ∀ {f : Nat} {first : Bool} {i j : Nat} {keys : List ByteArray} {l : List J} {x : J},
    seqS s val obj f first i keys l = .ok (x, j) → i ≤ s.size → i < j ∧ j ≤ s.size
  | 0, first, i, j, keys, l, x, h, hi => by simp [seqS] at h
  | f + 1, first, i, j, keys, l, x, h, hi => by
    rw [seq_eq] at h
    by_cases he : bt s i = (if obj then 125 else 93)
    · rw [if_pos he] at h
      have := bt_in (s := s) (i := i) (by cases obj <;> simp at he <;> omega)
      injection h with h; injection h with _ h; omega
    · rw [if_neg he] at h
      by_cases hc : (!first && bt s i != 44) = true
      · rw [if_pos hc] at h; cases h
      · rw [if_neg hc] at h
        have h1 : i ≤ (if first then i else whS s (i + 1)) ∧ (if first then i else whS s (i + 1)) ≤ s.size := by
          cases first with
          | true => simp; omega
          | false =>
            simp at hc
            have := bt_in (s := s) (i := i) (by omega)
            have := whS_le s (i + 1) (by omega)
            simp; omega
        generalize (if first then i else whS s (i + 1)) = i1 at h h1
        unfold memS at h
        split at h
        · cases ht : textS s i1 with
          | none => rw [ht] at h; cases h
          | some p =>
            obtain ⟨key, i2⟩ := p
            rw [ht] at h
            have h2 := textS_in ht
            have h3 := whS_le s i2 h2.2.1
            simp only at h
            split at h
            · cases h
            · split at h
              · rename_i hcol
                have := bt_in (s := s) (i := whS s i2) (by omega)
                have h4 := whS_le s (whS s i2 + 1) (by omega)
                cases hval : val (whS s (whS s i2 + 1)) with
                | error e => rw [hval] at h; cases h
                | ok q =>
                  obtain ⟨y, i3⟩ := q
                  rw [hval] at h
                  have h5 := hv _ _ _ h4.2 hval
                  have h6 := whS_le s i3 h5.2
                  have h7 := seqS_in hv h h6.2
                  omega
              · cases h
        · cases hval : val i1 with
          | error e => rw [hval] at h; cases h
          | ok q =>
            obtain ⟨y, i3⟩ := q
            rw [hval] at h
            have h5 := hv _ _ _ h1.2 hval
            have h6 := whS_le s i3 h5.2
            have h7 := seqS_in hv h h6.2
            omega
theorem wordB_in {s u : ByteArray} {i : Nat} (h : wordB s i u = true) (hi : i ≤ s.size) : i + u.size ≤ s.size := wordN_size h hi
theorem valS_in (s : ByteArray) : ∀ (lv i : Nat) (x : J) (j : Nat), i ≤ s.size → valS s lv i = .ok (x, j) → i < j ∧ j ≤ s.size := by
  intro lv
  induction lv with
  | zero =>
    intro i x j hi h
    rw [valS_eq] at h
    split at h
    · split at h
      · rename_i hw; have hq : i + 4 ≤ s.size := wordB_in hw hi; injection h with h; injection h with _ h; omega
      · cases h
    · split at h
      · split at h
        · rename_i hw; have hq : i + 4 ≤ s.size := wordB_in hw hi; injection h with h; injection h with _ h; omega
        · cases h
      · split at h
        · split at h
          · rename_i hw; have hq : i + 5 ≤ s.size := wordB_in hw hi; injection h with h; injection h with _ h; omega
          · cases h
        · split at h
          · rename_i hq
            cases ht : txtS s (i + 1) with
            | none => rw [ht] at h; cases h
            | some p =>
              obtain ⟨t, k⟩ := p
              rw [ht] at h
              have := txtF_in ht
              injection h with h; injection h with _ h; omega
          · split at h
            · cases h
            · cases hn : numS s i with
              | none => rw [hn] at h; cases h
              | some p =>
                obtain ⟨n, k⟩ := p
                rw [hn] at h
                have := numS_in hn hi
                injection h with h; injection h with _ h; omega
  | succ lv ih =>
    intro i x j hi h
    rw [valS_eq] at h
    split at h
    · split at h
      · rename_i hw; have hq : i + 4 ≤ s.size := wordB_in hw hi; injection h with h; injection h with _ h; omega
      · cases h
    · split at h
      · split at h
        · rename_i hw; have hq : i + 4 ≤ s.size := wordB_in hw hi; injection h with h; injection h with _ h; omega
        · cases h
      · split at h
        · split at h
          · rename_i hw; have hq : i + 5 ≤ s.size := wordB_in hw hi; injection h with h; injection h with _ h; omega
          · cases h
        · split at h
          · rename_i hq
            cases ht : txtS s (i + 1) with
            | none => rw [ht] at h; cases h
            | some p =>
              obtain ⟨t, k⟩ := p
              rw [ht] at h
              have := txtF_in ht
              injection h with h; injection h with _ h; omega
          · split at h
            · rename_i hq
              have hl := bt_in (s := s) (i := i) (by omega)
              have h1 := whS_le s (i + 1) (by omega)
              have h2 := seqS_in (fun i x j hi h => ih i x j hi h) (show seqS s (valS s lv) _ _ _ _ _ _ = _ from h) h1.2
              omega
            · cases hn : numS s i with
              | none => rw [hn] at h; cases h
              | some p =>
                obtain ⟨n, k⟩ := p
                rw [hn] at h
                have := numS_in hn hi
                injection h with h; injection h with _ h; omega

/-! ### what holds at the head of a round -/
theorem own_ne_types {w : World} {b1 b2 e1 e2 s1 s2 n1 n2 : Nat} {v1 v2 : Value} {x1 x2 : List Value} (h1 : w.ownsRow b1 e1 s1 v1 n1 x1) (h2 : w.ownsRow b2 e2 s2 v2 n2 x2) (he : e1 ≠ e2) : ∀ k, v1.ownBlock = some k → v2.ownBlock ≠ some k := by
  intro k hk hk2
  rcases h1.2 with ⟨rfl, _⟩ | ⟨g, cap, cur, rfl, _, hh, _⟩
  · cases hk
  · rcases h2.2 with ⟨rfl, _⟩ | ⟨g', cap', cur', rfl, _, hh', _⟩
    · cases hk2
    · injection hk with hk; injection hk2 with hk2
      simp only at hk hk2
      rw [hk, ← hk2, hh'] at hh
      injection hh with hh
      injection hh with _ hh
      exact he hh.symm
theorem own_but {g : Nat} {w w' : World} {base e sz n : Nat} {v : Value} {xs : List Value} (h : w.ownsRow base e sz v n xs) (hb : But g w w') (hg : g < base) : w'.ownsRow base e sz v n xs :=
  World.ownsRow.kept h hb.grownBy (.inr (fun e => by have := (World.ownsRow.lt h g e).1; omega))
def okE (base : Nat) (Lv Kv : Value) (b : Nat) : Prop := base ≤ b ∧ Lv.ownBlock ≠ some b ∧ Kv.ownBlock ≠ some b
structure InnerI (s : ByteArray) (g R B M base : Nat) (obj : Bool) (w wr : World) (k : Nat) (keys : List ByteArray) (l : List J) (Lv Kv : Value) (css : List (List Value)) : Prop where
  ps : PS wr g s k
  but : But g w wr
  res : JB wr R (.int .i64 0) (.bool false) (.int .i64 0) (.string ⟨#[]⟩) (.slice none 0 0) (.slice none 0 0)
  out : JB wr B (.int .i64 (if obj then 5 else 4)) (.bool false) (.int .i64 0) (.string ⟨#[]⟩) Lv Kv
  seen : Seen wr M keys
  ownL : wr.ownsRow base 25 6 Lv l.length css.flatten
  cssl : css.length = l.length
  six : ∀ c ∈ css, c.length = 6
  rep : ∀ (i : Nat) (cs : List Value) (x : J), css[i]? = some cs → l[i]? = some x → JRep wr (okE base Lv Kv) cs x
  ownK : wr.ownsRow base 9 1 Kv keys.length (keys.map Value.string)
  lenL : l.length ≤ k
  lenK : keys.length ≤ k
  kle : k ≤ s.size
  ble : base ≤ wr.heap.size
theorem InnerI.next {s : ByteArray} {g R B M base : Nat} {obj : Bool} {w wr w' : World} {k k' : Nat} {keys : List ByteArray} {l : List J} {Lv Kv : Value} {css : List (List Value)} (h : InnerI s g R B M base obj w wr k keys l Lv Kv css)
    (hord : g < R ∧ R < base ∧ g < B ∧ B < base ∧ g < M ∧ M < base) (hp : PS w' g s k') (hb : But g wr w') (h1 : k ≤ k') (h2 : k' ≤ s.size) : InnerI s g R B M base obj w w' k' keys l Lv Kv css where
  ps := hp
  but := h.but.trans hb
  res := h.res.but hb (by omega)
  out := h.out.but hb (by omega)
  seen := h.seen.kept hb.grownBy (fun e => by injection e with e; omega)
  ownL := own_but h.ownL hb (by omega)
  cssl := h.cssl
  six := h.six
  rep := fun i cs x hi hx => (h.rep i cs x hi hx).mono fun b hb1 hlt => ⟨hb1, hb.block b hlt (by have := hb1.1; omega)⟩
  ownK := own_but h.ownK hb (by omega)
  lenL := by have := h.lenL; omega
  lenK := by have := h.lenK; omega
  kle := h2
  ble := by have := h.ble; have := hb.size; omega
/-- behind the store of a new row of keys -/
theorem InnerI.addKey {s : ByteArray} {g R B M base : Nat} {obj : Bool} {w wr wa wb : World} {k : Nat} {keys : List ByteArray} {l : List J} {Lv Kv Kv' : Value} {css : List (List Value)} {t : ByteArray} (h : InnerI s g R B M base obj w wr k keys l Lv Kv css)
    (hord : g < R ∧ R < base ∧ g < B ∧ B < base ∧ g < M ∧ M < base) (hw : g < w.heap.size ∧ w.heap.size ≤ R ∧ w.heap.size ≤ B ∧ w.heap.size ≤ M) (hRB : R ≠ B)
    (hseen : Seen wa M (keys ++ [t])) (hga : wr.grownBy wa (some M))
    (hown : wb.ownsRow base 9 1 Kv' (keys.length + 1) (keys.map Value.string ++ [.string t])) (hgb : wa.grownBy wb Kv.ownBlock) (hnew : ∀ j, Kv'.ownBlock = some j → Kv.ownBlock = some j ∨ wa.heap.size ≤ j)
    (hlk : keys.length < k) : InnerI s g R B M base obj w (wb.setCell ⟨B, 5, none⟩ Kv') k (keys ++ [t]) l Lv Kv' css := by
  have hp := h.ps
  have h2 := h.kle
  have hK := World.ownsRow.lt h.ownK
  have hL := World.ownsRow.lt h.ownL
  have hLK := own_ne_types h.ownK h.ownL (by decide)
  have hML : Lv.ownBlock ≠ some M := fun e => by have := (hL M e).1; omega
  have hMK : Kv.ownBlock ≠ some M := fun e => by have := (hK M e).1; omega
  have hgK : ∀ z, z < base → some z ≠ Kv.ownBlock := fun z hz e => by have := (hK z e.symm).1; omega
  have hsz := hga.size
  have hg2 : ∀ z, z < wr.heap.size → z ≠ M → some z ≠ Kv.ownBlock → wb.heap[z]? = wr.heap[z]? := fun z hz hzM hzK =>
    (hgb.block z (by omega) hzK).trans (hga.block z hz (fun e => hzM (by injection e)))
  have hJ : JB wb B (.int .i64 (if obj then 5 else 4)) (.bool false) (.int .i64 0) (.string ⟨#[]⟩) Lv Kv := (hg2 B h.out.lt (by intro e; subst e; have := h.seen; obtain ⟨es, cl, hh, _⟩ := this; have := h.out; unfold JB at this; rw [hh] at this; cases this) (hgK B (by omega))).trans h.out
  have ho : Only B wb (wb.setCell ⟨B, 5, none⟩ Kv') := (Only.refl B wb).set 5 Kv'
  have hRM : R ≠ M := by intro e; subst e; have := h.seen; obtain ⟨es, cl, hh, _⟩ := this; have := h.res; unfold JB at this; rw [hh] at this; cases this
  refine ⟨?_, ?_, ?_, hJ.set5 Kv', ?_, ?_, h.cssl, h.six, ?_, ?_, ?_, ?_, h2, ?_⟩
  · exact PS.only ((hg2 g hp.lt (by omega) (hgK g (by omega))).trans hp) ho (by omega)
  · refine But.only ?_ ho (by omega)
    exact (h.but.grown hga (fun j hj => by injection hj with hj; omega)).grown hgb (fun j hj => by have := (hK j hj).1; omega)
  · exact (ho.block R hRB).trans ((hg2 R h.res.lt hRM (hgK R (by omega))).trans h.res)
  · exact (hseen.kept hgb (fun e => hMK e.symm)).kept ho.but.grownBy (fun e => by
      injection e with e
      subst e
      have := h.seen; obtain ⟨es, cl, hh, _⟩ := this; have := h.out; unfold JB at this; rw [hh] at this; cases this)
  · refine own_only ?_ ho (by omega)
    refine World.ownsRow.kept (World.ownsRow.kept h.ownL hga (.inr hML)) hgb ?_
    cases hLo : Lv.ownBlock with
    | none => exact .inl rfl
    | some z => exact .inr (fun e => hLK z e.symm hLo)
  · intro i cs x hi hx
    refine (h.rep i cs x hi hx).mono fun b hb1 hlt => ⟨⟨hb1.1, hb1.2.1, fun e => ?_⟩, (ho.block b (by have := hb1.1; omega)).trans (hg2 b hlt (by have := hb1.1; omega) (fun e => hb1.2.2 e.symm))⟩
    rcases hnew b e with h3 | h3
    · exact hb1.2.2 h3
    · omega
  · refine own_only ?_ ho (by omega)
    rw [List.length_append, List.map_append]; exact hown
  · exact h.lenL
  · rw [List.length_append]; simp; omega
  · rw [ho.size]; have := hgb.size; have := h.ble; omega
/-- behind the store of a new row of members -/
theorem InnerI.addMember {s : ByteArray} {g R B M base : Nat} {obj : Bool} {w wr wa wb : World} {k : Nat} {keys : List ByteArray} {l : List J} {Lv Kv Lv' : Value} {css : List (List Value)} {x : J} {cs : List Value} (h : InnerI s g R B M base obj w wr k keys l Lv Kv css)
    (hord : g < R ∧ R < base ∧ g < B ∧ B < base ∧ g < M ∧ M < base) (hw : g < w.heap.size ∧ w.heap.size ≤ R ∧ w.heap.size ≤ B ∧ w.heap.size ≤ M) (hRB : R ≠ B)
    (hga : Below wr.heap.size wr wa) (hrep : JRep wr (fun b => base ≤ b ∧ Lv.ownBlock ≠ some b ∧ Kv.ownBlock ≠ some b) cs x) (hlen : cs.length = 6)
    (hown : wb.ownsRow base 25 6 Lv' (l.length + 1) (css.flatten ++ cs)) (hgb : wa.grownBy wb Lv.ownBlock) (hnew : ∀ j, Lv'.ownBlock = some j → Lv.ownBlock = some j ∨ wr.heap.size ≤ j)
    (hl : l.length < k) : InnerI s g R B M base obj w (wb.setCell ⟨B, 4, none⟩ Lv') k keys (l ++ [x]) Lv' Kv (css ++ [cs]) := by
  have hK := World.ownsRow.lt h.ownK
  have hL := World.ownsRow.lt h.ownL
  have hLK := own_ne_types h.ownL h.ownK (by decide)
  have hML : Lv.ownBlock ≠ some M := fun e => by have := (hL M e).1; omega
  have hgL : ∀ z, z < base → some z ≠ Lv.ownBlock := fun z hz e => by have := (hL z e.symm).1; omega
  have hsz := hga.size
  have hg2 : ∀ z, z < wr.heap.size → some z ≠ Lv.ownBlock → wb.heap[z]? = wr.heap[z]? := fun z hz hzK =>
    (hgb.block z (by omega) hzK).trans (hga.block z hz)
  have hJ : JB wb B (.int .i64 (if obj then 5 else 4)) (.bool false) (.int .i64 0) (.string ⟨#[]⟩) Lv Kv := (hg2 B h.out.lt (hgL B (by omega))).trans h.out
  have ho : Only B wb (wb.setCell ⟨B, 4, none⟩ Lv') := (Only.refl B wb).set 4 Lv'
  have hMB : M ≠ B := by intro e; subst e; have := h.seen; obtain ⟨es, cl, hh, _⟩ := this; have := h.out; unfold JB at this; rw [hh] at this; cases this
  have hrep2 : ∀ (cs : List Value) (x : J), JRep wr (okE base Lv Kv) cs x → JRep (wb.setCell ⟨B, 4, none⟩ Lv') (okE base Lv' Kv) cs x := by
    intro cs x hr
    refine hr.mono fun b hb1 hlt => ⟨⟨hb1.1, fun e => ?_, hb1.2.2⟩, (ho.block b (by have := hb1.1; omega)).trans (hg2 b hlt (fun e => hb1.2.1 e.symm))⟩
    rcases hnew b e with h3 | h3
    · exact hb1.2.1 h3
    · omega
  refine ⟨?_, ?_, ?_, hJ.set4 Lv', ?_, ?_, ?_, ?_, ?_, ?_, ?_, h.lenK, h.kle, ?_⟩
  · exact PS.only ((hg2 g h.ps.lt (hgL g (by omega))).trans h.ps) ho (by omega)
  · refine But.only ?_ ho (by omega)
    exact (h.but.trans (.below hga)).grown hgb (fun j hj => by have := (hL j hj).1; omega)
  · exact (ho.block R hRB).trans ((hg2 R h.res.lt (hgL R (by omega))).trans h.res)
  · have g1 : wr.grownBy wa none := ⟨hga.os, hga.tape, hga.output, hga.size, fun k hk _ => hga.block k hk⟩
    exact ((h.seen.kept g1 (by simp)).kept hgb (fun e => hML e.symm)).kept ho.but.grownBy (fun e => hMB (by injection e))
  · refine own_only ?_ ho (by omega)
    rw [List.length_append, List.flatten_append]
    simpa using hown
  · rw [List.length_append, List.length_append, h.cssl]; rfl
  · intro c hc
    rcases List.mem_append.1 hc with hc | hc
    · exact h.six c hc
    · rw [List.mem_singleton.1 hc]; exact hlen
  · intro i cs' x' hi hx
    by_cases hil : i < css.length
    · rw [List.getElem?_append_left hil] at hi
      rw [List.getElem?_append_left (by rw [← h.cssl]; exact hil)] at hx
      exact hrep2 _ _ (h.rep i cs' x' hi hx)
    · have hi2 : i = css.length := by
        have := (List.getElem?_eq_some_iff.1 hi).1
        rw [List.length_append] at this; simp at this; omega
      subst hi2
      rw [List.getElem?_append_right (Nat.le_refl _)] at hi
      rw [List.getElem?_append_right (by rw [h.cssl]; exact Nat.le_refl _), h.cssl] at hx
      simp at hi hx
      subst hi hx
      exact hrep2 _ _ hrep
  · refine own_only ?_ ho (by omega)
    have g1 : wr.grownBy wa none := ⟨hga.os, hga.tape, hga.output, hga.size, fun k hk _ => hga.block k hk⟩
    refine World.ownsRow.kept (World.ownsRow.kept h.ownK g1 (by cases Kv.ownBlock <;> simp)) hgb ?_
    cases hKo : Kv.ownBlock with
    | none => exact .inl rfl
    | some z => exact .inr (fun e => hLK z e.symm hKo)
  · rw [List.length_append]; simp; omega
  · rw [ho.size]; have := hgb.size; have := h.ble; omega

end Go.Proofs.YtbhnfehpbbibbaaDoor
