/- The reference's parser: value, from what list and object come to. The plain law of parsing: where the reference gives up at a point or an exponent, the program gives up a step later, with the same error. -/
import Derived.Test.YtbhnfehpbbibbaaDoorM17
import Derived.Test.YtbhnfehpbbibbaaDoorM22

namespace Go.Proofs.YtbhnfehpbbibbaaDoor
open Go.RowKit

theorem word_first {s u : ByteArray} {i : Nat} (h : wordB s i u = true) (hu : 0 < u.size) : bt s i = bt u 0 := by
  have := (wordN_iff u.size).1 h 0 hu
  simpa using this.2
theorem num_bad {s : ByteArray} {i : Nat} (h1 : bt s i ≠ 45) (h2 : isDig (bt s i) = false) : numS s i = none := by
  rw [num_eq (f := i) (by rw [if_neg h1]) (digS_stop h2), if_pos (.inl rfl)]
theorem rval_null {s : ByteArray} {lv i : Nat} (h : wordB s i ⟨#[110, 117, 108, 108]⟩ = true) : rvalS s lv i = .ok (.null, i + 4) := by
  have hb : bt s i = 110 := word_first h (by decide)
  rw [rvalS_eq, if_pos hb, if_pos h]
theorem rval_true {s : ByteArray} {lv i : Nat} (h : wordB s i ⟨#[116, 114, 117, 101]⟩ = true) : rvalS s lv i = .ok (.mk 1 true 0 ⟨#[]⟩ [] [], i + 4) := by
  have hb : bt s i = 116 := word_first h (by decide)
  rw [rvalS_eq, if_neg (by omega), if_pos hb, if_pos h]
theorem rval_false {s : ByteArray} {lv i : Nat} (h : wordB s i ⟨#[102, 97, 108, 115, 101]⟩ = true) : rvalS s lv i = .ok (.mk 1 false 0 ⟨#[]⟩ [] [], i + 5) := by
  have hb : bt s i = 102 := word_first h (by decide)
  rw [rvalS_eq, if_neg (by omega), if_neg (by omega), if_pos hb, if_pos h]
theorem rval_text {s : ByteArray} {lv i : Nat} (hb : bt s i = 34) : rvalS s lv i = (match txtS s (i + 1) with | none => .error 300 | some (t, j) => .ok (.mk 3 false 0 t [] [], j)) := by
  rw [rvalS_eq, if_neg (by omega), if_neg (by omega), if_neg (by omega), if_pos hb]; rfl
theorem rval_list {s : ByteArray} {lv i : Nat} (hb : bt s i = 91) : rvalS s lv i = rinnerS s lv i false := by
  rw [rvalS_eq, if_neg (by omega), if_neg (by omega), if_neg (by omega), if_neg (by omega), if_pos (.inl hb), hb]; rfl
theorem rval_obj {s : ByteArray} {lv i : Nat} (hb : bt s i = 123) : rvalS s lv i = rinnerS s lv i true := by
  rw [rvalS_eq, if_neg (by omega), if_neg (by omega), if_neg (by omega), if_neg (by omega), if_pos (.inr hb), hb]; rfl
theorem rval_num {s : ByteArray} {lv i : Nat} (hb : bt s i = 45 ∨ 48 ≤ bt s i ∧ bt s i ≤ 57) : rvalS s lv i = (match rnumS s i with | none => .error 300 | some (n, j) => .ok (.mk 2 false n ⟨#[]⟩ [] [], j)) := by
  rw [rvalS_eq, if_neg (by omega), if_neg (by omega), if_neg (by omega), if_neg (by omega), if_neg (by omega)]; rfl
theorem rval_bad {s : ByteArray} {lv i : Nat} (h1 : wordB s i ⟨#[110, 117, 108, 108]⟩ = false) (h2 : wordB s i ⟨#[116, 114, 117, 101]⟩ = false) (h3 : wordB s i ⟨#[102, 97, 108, 115, 101]⟩ = false)
    (h4 : bt s i ≠ 34 ∧ bt s i ≠ 91 ∧ bt s i ≠ 123 ∧ bt s i ≠ 45 ∧ ¬ (48 ≤ bt s i ∧ bt s i ≤ 57)) : rvalS s lv i = .error 300 := by
  rw [rvalS_eq]
  by_cases c1 : bt s i = 110
  · rw [if_pos c1, h1]; rfl
  rw [if_neg c1]
  by_cases c2 : bt s i = 116
  · rw [if_pos c2, h2]; rfl
  rw [if_neg c2]
  by_cases c3 : bt s i = 102
  · rw [if_pos c3, h3]; rfl
  rw [if_neg c3, if_neg h4.1, if_neg (by omega), rnum_none (num_bad h4.2.2.2.1 (by simp only [isDig, decide_eq_false_iff_not]; omega))]
theorem rnum_in {s : ByteArray} {i j : Nat} {n : Int} (h : rnumS s i = some (n, j)) (hi : i ≤ s.size) : j ≤ s.size := by
  unfold rnumS at h
  cases hn : numS s i with
  | none => rw [hn] at h; cases h
  | some q =>
    obtain ⟨m, k⟩ := q
    rw [hn] at h
    have := numS_in hn hi
    simp only at h
    split at h
    · cases h
    · injection h with h; injection h with _ h; omega
theorem wordB_out {s u : ByteArray} {i : Nat} (h : s.size ≤ i) (hu : 0 < u.size) : wordB s i u = false := by
  cases hw : wordB s i u with
  | false => rfl
  | true => have := (wordN_iff u.size).1 hw 0 hu; omega

set_option maxRecDepth 100000 in
set_option maxHeartbeats 8000000 in
theorem rvalue_of (lv : Nat) (hlv : lv ≤ 16) (hL : RListC lv) (hO : RObjC lv) : RValueC lv := by
  intro g s i D w hs0 hi h hD
  have hs : s.size ≤ 140737488351232 := by omega
  have HLC := Lib.hid hL
  have HOC := Lib.hid hO
  have HP := Lib.hid h
  have hgl := h.lt
  have HD := Lib.hid hD
  have hD0 : 0 ≤ D := by omega
  have hD1 : D ≤ 16 := by omega
  have p0 : ∀ o, (w.alloc o).cell? ⟨g, 0, none⟩ = some (.string s) := fun o => (h.alloc o).c0
  have p1 : ∀ o, (w.alloc o).cell? ⟨g, 1, none⟩ = some (.int .i64 i) := fun o => (h.alloc o).c1
  have p2 : ∀ o, (w.alloc o).cell? ⟨g, 2, none⟩ = some (.int .i64 0) := fun o => (h.alloc o).c2
  have H0 : Hid (RS (w.alloc (.cells #[.int .i64 0, .bool false, .int .i64 0, .string ⟨#[]⟩, .slice none 0 0, .slice none 0 0] 25)) g s i 0 ∧ But g w (w.alloc (.cells #[.int .i64 0, .bool false, .int .i64 0, .string ⟨#[]⟩, .slice none 0 0, .slice none 0 0] 25)) ∧ JB (w.alloc (.cells #[.int .i64 0, .bool false, .int .i64 0, .string ⟨#[]⟩, .slice none 0 0, .slice none 0 0] 25)) w.heap.size (.int .i64 0) (.bool false) (.int .i64 0) (.string ⟨#[]⟩) (.slice none 0 0) (.slice none 0 0)) := ⟨h.alloc _, (But.refl g w).alloc _, JB.new w _ _ _ _ _ _⟩
  clear h hL hO hD
  by_cases hlt : i < s.size
  case neg =>
    have HE : Hid (rvalS s lv i = .error 300) := rval_bad (wordB_out (by omega) (by decide)) (wordB_out (by omega) (by decide)) (wordB_out (by omega) (by decide)) (by rw [bt_out (by omega)]; omega)
    have hd : decide ((s.size : Int) ≤ i) = true := decide_eq_true (by omega)
    go_enter Tryd.func19, Tryd.ntmps19
    go_wp2_with fail
    go_quiet (fail)
    go_wp2_with fail
    refine (rfail_first g s i 300 _ (H0.out.1.drewN _)).mono ?_
    rintro e w1 ⟨rfl, hp, hb⟩
    have H1 : Hid (RS w1 g s i 300 ∧ But g w w1 ∧ JB w1 w.heap.size (.int .i64 0) (.bool false) (.int .i64 0) (.string ⟨#[]⟩) (.slice none 0 0) (.slice none 0 0)) := ⟨hp, But.trans (by have := H0.out.2.1; (repeat' (first | (with_reducible exact But.refl _ _) | (with_reducible assumption) | (with_reducible refine But.drewN ?_ _) | (with_reducible refine But.drew ?_) | (with_reducible refine But.alloc ?_ _) | (with_reducible refine But.setOwn ?_ _ _)))) hb, JB.but (by exact H0.out.2.2) hb (by omega)⟩
    clear hp hb
    clear p0 p1 p2
    obtain ⟨k0, k1, k2, k3, k4, k5⟩ := H1.out.2.2.cell
    have f0 := H1.out.2.2.frozen 0
    have f1 := H1.out.2.2.frozen 1
    have f2 := H1.out.2.2.frozen 2
    have f3 := H1.out.2.2.frozen 3
    have f4 := H1.out.2.2.frozen 4
    have f5 := H1.out.2.2.frozen 5
    go_wp2_with fail
    refine ret_json Tryd.results19 rfl H1.out.2.2 fun W ho hJ => ?_
    exact RJPost.no HE.out (by decide) hi ⟨rfl, H1.out.1.only ho (by omega), H1.out.2.1.only ho (Nat.le_refl _)⟩ (JRep.nils _ _ _ _ _ _)
  case pos =>
    have hd : decide ((s.size : Int) ≤ i) = false := decide_eq_false (by omega)
    go_enter Tryd.func19, Tryd.ntmps19
    go_wp2_with fail
    go_quiet (fail)
    go_wp2_with fail
    cases hw0 : wordB s i ⟨#[110, 117, 108, 108]⟩ with
    | true =>
      have HE := Lib.hid (rval_null (lv := lv) hw0)
      have hin : i + 4 ≤ s.size := wordB_in hw0 hi
      have HW := Lib.hid hw0
      clear hw0
      refine (rword_yes g s _ i 0 _ hs (by decide) (H0.out.1.drewN _) hi HW.out).mono ?_
      rintro e w1 ⟨rfl, hp, hb⟩
      have H1 : Hid (RS w1 g s (i + 4) 0 ∧ But g w w1 ∧ JB w1 w.heap.size (.int .i64 0) (.bool false) (.int .i64 0) (.string ⟨#[]⟩) (.slice none 0 0) (.slice none 0 0)) := ⟨hp, But.trans (by have := H0.out.2.1; (repeat' (first | (with_reducible exact But.refl _ _) | (with_reducible assumption) | (with_reducible refine But.drewN ?_ _) | (with_reducible refine But.drew ?_) | (with_reducible refine But.alloc ?_ _) | (with_reducible refine But.setOwn ?_ _ _)))) hb, JB.but (by exact H0.out.2.2) hb (by omega)⟩
      clear hp hb
      obtain ⟨k0, k1, k2, k3, k4, k5⟩ := H1.out.2.2.cell
      have f0 := H1.out.2.2.frozen 0
      have f1 := H1.out.2.2.frozen 1
      have f2 := H1.out.2.2.frozen 2
      have f3 := H1.out.2.2.frozen 3
      have f4 := H1.out.2.2.frozen 4
      have f5 := H1.out.2.2.frozen 5
      go_wp2_with fail
      refine ret_json Tryd.results19 rfl H1.out.2.2 fun W ho hJ => ?_
      exact RJPost.yes HE.out hin ⟨rfl, H1.out.1.only ho (by omega), H1.out.2.1.only ho (Nat.le_refl _)⟩ (JRep.nils _ _ _ _ _ _)
    | false =>
      have HW0 := Lib.hid hw0
      clear hw0
      refine (rword_no g s _ i 0 _ hs (by decide) (H0.out.1.drewN _) hi HW0.out).mono ?_
      rintro e w11 ⟨rfl, hp, hb⟩
      have H1 : Hid (RS w11 g s i 0 ∧ But g w w11 ∧ JB w11 w.heap.size (.int .i64 0) (.bool false) (.int .i64 0) (.string ⟨#[]⟩) (.slice none 0 0) (.slice none 0 0)) := ⟨hp, But.trans (by have := H0.out.2.1; (repeat' (first | (with_reducible exact But.refl _ _) | (with_reducible assumption) | (with_reducible refine But.drewN ?_ _) | (with_reducible refine But.drew ?_) | (with_reducible refine But.alloc ?_ _) | (with_reducible refine But.setOwn ?_ _ _)))) hb, JB.but (by exact H0.out.2.2) hb (by omega)⟩
      clear hp hb
      go_wp2_with fail
      cases hw1 : wordB s i ⟨#[116, 114, 117, 101]⟩ with
      | true =>
        have HE := Lib.hid (rval_true (lv := lv) hw1)
        have hin : i + 4 ≤ s.size := wordB_in hw1 hi
        have HW := Lib.hid hw1
        clear hw1
        refine (rword_yes g s _ i 0 _ hs (by decide) H1.out.1 hi HW.out).mono ?_
        rintro e w1 ⟨rfl, hp, hb⟩
        have H2 : Hid (RS w1 g s (i + 4) 0 ∧ But g w w1 ∧ JB w1 w.heap.size (.int .i64 0) (.bool false) (.int .i64 0) (.string ⟨#[]⟩) (.slice none 0 0) (.slice none 0 0)) := ⟨hp, But.trans (by have := H1.out.2.1; (repeat' (first | (with_reducible exact But.refl _ _) | (with_reducible assumption) | (with_reducible refine But.drewN ?_ _) | (with_reducible refine But.drew ?_) | (with_reducible refine But.alloc ?_ _) | (with_reducible refine But.setOwn ?_ _ _)))) hb, JB.but (by exact H1.out.2.2) hb (by omega)⟩
        clear hp hb
        obtain ⟨k0, k1, k2, k3, k4, k5⟩ := H2.out.2.2.cell
        have f0 := H2.out.2.2.frozen 0
        have f1 := H2.out.2.2.frozen 1
        have f2 := H2.out.2.2.frozen 2
        have f3 := H2.out.2.2.frozen 3
        have f4 := H2.out.2.2.frozen 4
        have f5 := H2.out.2.2.frozen 5
        go_wp2_with fail
        refine ret_json Tryd.results19 rfl H2.out.2.2 fun W ho hJ => ?_
        exact RJPost.yes HE.out hin ⟨rfl, H2.out.1.only ho (by omega), H2.out.2.1.only ho (Nat.le_refl _)⟩ (JRep.nils _ _ _ _ _ _)
      | false =>
        have HW1 := Lib.hid hw1
        clear hw1
        refine (rword_no g s _ i 0 _ hs (by decide) H1.out.1 hi HW1.out).mono ?_
        rintro e w12 ⟨rfl, hp, hb⟩
        have H2 : Hid (RS w12 g s i 0 ∧ But g w w12 ∧ JB w12 w.heap.size (.int .i64 0) (.bool false) (.int .i64 0) (.string ⟨#[]⟩) (.slice none 0 0) (.slice none 0 0)) := ⟨hp, But.trans (by have := H1.out.2.1; (repeat' (first | (with_reducible exact But.refl _ _) | (with_reducible assumption) | (with_reducible refine But.drewN ?_ _) | (with_reducible refine But.drew ?_) | (with_reducible refine But.alloc ?_ _) | (with_reducible refine But.setOwn ?_ _ _)))) hb, JB.but (by exact H1.out.2.2) hb (by omega)⟩
        clear hp hb
        go_wp2_with fail
        cases hw2 : wordB s i ⟨#[102, 97, 108, 115, 101]⟩ with
        | true =>
          have HE := Lib.hid (rval_false (lv := lv) hw2)
          have hin : i + 5 ≤ s.size := wordB_in hw2 hi
          have HW := Lib.hid hw2
          clear hw2
          refine (rword_yes g s _ i 0 _ hs (by decide) H2.out.1 hi HW.out).mono ?_
          rintro e w1 ⟨rfl, hp, hb⟩
          have H3 : Hid (RS w1 g s (i + 5) 0 ∧ But g w w1 ∧ JB w1 w.heap.size (.int .i64 0) (.bool false) (.int .i64 0) (.string ⟨#[]⟩) (.slice none 0 0) (.slice none 0 0)) := ⟨hp, But.trans (by have := H2.out.2.1; (repeat' (first | (with_reducible exact But.refl _ _) | (with_reducible assumption) | (with_reducible refine But.drewN ?_ _) | (with_reducible refine But.drew ?_) | (with_reducible refine But.alloc ?_ _) | (with_reducible refine But.setOwn ?_ _ _)))) hb, JB.but (by exact H2.out.2.2) hb (by omega)⟩
          clear hp hb
          obtain ⟨k0, k1, k2, k3, k4, k5⟩ := H3.out.2.2.cell
          have f0 := H3.out.2.2.frozen 0
          have f1 := H3.out.2.2.frozen 1
          have f2 := H3.out.2.2.frozen 2
          have f3 := H3.out.2.2.frozen 3
          have f4 := H3.out.2.2.frozen 4
          have f5 := H3.out.2.2.frozen 5
          go_wp2_with fail
          refine ret_json Tryd.results19 rfl H3.out.2.2 fun W ho hJ => ?_
          exact RJPost.yes HE.out hin ⟨rfl, H3.out.1.only ho (by omega), H3.out.2.1.only ho (Nat.le_refl _)⟩ (JRep.nils _ _ _ _ _ _)
        | false =>
          have HW2 := Lib.hid hw2
          clear hw2
          refine (rword_no g s _ i 0 _ hs (by decide) H2.out.1 hi HW2.out).mono ?_
          rintro e w13 ⟨rfl, hp, hb⟩
          have H3 : Hid (RS w13 g s i 0 ∧ But g w w13 ∧ JB w13 w.heap.size (.int .i64 0) (.bool false) (.int .i64 0) (.string ⟨#[]⟩) (.slice none 0 0) (.slice none 0 0)) := ⟨hp, But.trans (by have := H2.out.2.1; (repeat' (first | (with_reducible exact But.refl _ _) | (with_reducible assumption) | (with_reducible refine But.drewN ?_ _) | (with_reducible refine But.drew ?_) | (with_reducible refine But.alloc ?_ _) | (with_reducible refine But.setOwn ?_ _ _)))) hb, JB.but (by exact H2.out.2.2) hb (by omega)⟩
          clear hp hb
          go_wp2_with fail
          clear p0 p1 p2
          have p0 := H3.out.1.c0
          have p1 := H3.out.1.c1
          have HB := Lib.hid (bt_at hlt)
          have hc1 := bt_lt s i
          rw [HB.out] at hc1
          obtain ⟨C, hC⟩ : ∃ C : Int, ((s[i]'hlt).toNat : Int) = C := ⟨_, rfl⟩
          have HC : Hid (C = bt s i) := by show _ = _; rw [HB.out, hC]
          have hC0 : 0 ≤ C := by omega
          have hC1 : C < 256 := by omega
          clear hc1
          by_cases hc : C = 34
          case pos =>
            have y1 : (C == 34) = true := beq_iff_eq.2 hc
            have HV := Lib.hid (rval_text (s := s) (lv := lv) (i := i) (by have := HC.out; omega))
            clear hc
            go_quiet (fail)
            go_wp2_with fail
            refine (rtext_any g s i _ hs hlt (H3.out.1.drewN _)).mono ?_
            intro e w5 hx
            have HX := Lib.hid hx
            clear hx
            cases ht : txtS s (i + 1) with
            | none =>
              have HE : Hid (rvalS s lv i = .error 300) := by show _ = _; rw [HV.out, ht]
              obtain ⟨j, hj, rfl, hp, hb⟩ := HX.out.at_none ht
              clear ht HX p0 p1
              have H5 : Hid (RS w5 g s j 300 ∧ But g w w5 ∧ JB w5 w.heap.size (.int .i64 0) (.bool false) (.int .i64 0) (.string ⟨#[]⟩) (.slice none 0 0) (.slice none 0 0)) := ⟨hp, But.trans (by have := H3.out.2.1; (repeat' (first | (with_reducible exact But.refl _ _) | (with_reducible assumption) | (with_reducible refine But.drewN ?_ _) | (with_reducible refine But.drew ?_) | (with_reducible refine But.alloc ?_ _) | (with_reducible refine But.setOwn ?_ _ _)))) hb, JB.but (by exact H3.out.2.2) hb (by omega)⟩
              clear hp hb
              obtain ⟨k0, k1, k2, k3, k4, k5⟩ := H5.out.2.2.cell
              have f0 := H5.out.2.2.frozen 0
              have f1 := H5.out.2.2.frozen 1
              have f2 := H5.out.2.2.frozen 2
              have f3 := H5.out.2.2.frozen 3
              have f4 := H5.out.2.2.frozen 4
              have f5 := H5.out.2.2.frozen 5
              go_wp2_with fail
              refine ret_json Tryd.results19 rfl H5.out.2.2 fun W ho hJ => ?_
              exact RJPost.no HE.out (by decide) hj ⟨rfl, H5.out.1.only ho (by omega), H5.out.2.1.only ho (Nat.le_refl _)⟩ (JRep.nils _ _ _ _ _ _)
            | some q =>
              obtain ⟨t, j⟩ := q
              have HE : Hid (rvalS s lv i = .ok (.mk 3 false 0 t [] [], j)) := by show _ = _; rw [HV.out, ht]
              have hj := (txtF_in (show txtF s _ _ _ = _ from ht)).2.1
              obtain ⟨rfl, hp, hb⟩ := HX.out.at_some ht
              clear ht HX p0 p1
              have H5 : Hid (RS w5 g s j 0 ∧ But g w w5 ∧ JB w5 w.heap.size (.int .i64 0) (.bool false) (.int .i64 0) (.string ⟨#[]⟩) (.slice none 0 0) (.slice none 0 0)) := ⟨hp, But.trans (by have := H3.out.2.1; (repeat' (first | (with_reducible exact But.refl _ _) | (with_reducible assumption) | (with_reducible refine But.drewN ?_ _) | (with_reducible refine But.drew ?_) | (with_reducible refine But.alloc ?_ _) | (with_reducible refine But.setOwn ?_ _ _)))) hb, JB.but (by exact H3.out.2.2) hb (by omega)⟩
              clear hp hb
              obtain ⟨k0, k1, k2, k3, k4, k5⟩ := H5.out.2.2.cell
              have f0 := H5.out.2.2.frozen 0
              have f1 := H5.out.2.2.frozen 1
              have f2 := H5.out.2.2.frozen 2
              have f3 := H5.out.2.2.frozen 3
              have f4 := H5.out.2.2.frozen 4
              have f5 := H5.out.2.2.frozen 5
              go_wp2_with fail
              refine ret_json Tryd.results19 rfl H5.out.2.2 fun W ho hJ => ?_
              exact RJPost.yes HE.out hj ⟨rfl, H5.out.1.only ho (by omega), H5.out.2.1.only ho (Nat.le_refl _)⟩ (JRep.nils _ _ _ _ _ _)
          case neg =>
            have n34 : (C == 34) = false := beq_eq_false_iff_ne.2 hc
            have HN34 := Lib.hid hc
            clear hc
            by_cases hc : C = 91
            case pos =>
              have y1 : (C == 91) = true := beq_iff_eq.2 hc
              have HV := Lib.hid (rval_list (s := s) (lv := lv) (i := i) (by have := HC.out; omega))
              clear hc
              go_quiet (fail)
              go_wp2_with fail
              go_quiet (fail)
              go_wp2_with fail
              refine (HLC.out g s i _ _ hs0 hlt (H3.out.1.drewN _) (by have := HD.out; omega)).mono ?_
              intro e w5 hx
              obtain ⟨a, b, c, d, Lv, Kv, x, j, code, hj, ⟨rfl, hp, hb⟩, hr, hm⟩ := hx
              obtain ⟨z1, z2, z3, z4, A1, l1, m1, A2, l2, m2, rfl, rfl, rfl, rfl, rfl, rfl⟩ := rep_form hr
              have HR := Lib.hid hr
              have HM := Lib.hid hm
              have hsz : w.heap.size < w13.heap.size := H3.out.2.2.lt
              clear hr hm p0 p1
              have H5 : Hid (RS w5 g s j code ∧ But g w w5 ∧ JB w5 w.heap.size (.int .i64 0) (.bool false) (.int .i64 0) (.string ⟨#[]⟩) (.slice none 0 0) (.slice none 0 0)) := ⟨hp, But.trans (by have := H3.out.2.1; (repeat' (first | (with_reducible exact But.refl _ _) | (with_reducible assumption) | (with_reducible refine But.drewN ?_ _) | (with_reducible refine But.drew ?_) | (with_reducible refine But.alloc ?_ _) | (with_reducible refine But.setOwn ?_ _ _)))) hb, JB.but (by exact H3.out.2.2) hb (by omega)⟩
              clear hp hb
              obtain ⟨k0, k1, k2, k3, k4, k5⟩ := H5.out.2.2.cell
              have f0 := H5.out.2.2.frozen 0
              have f1 := H5.out.2.2.frozen 1
              have f2 := H5.out.2.2.frozen 2
              have f3 := H5.out.2.2.frozen 3
              have f4 := H5.out.2.2.frozen 4
              have f5 := H5.out.2.2.frozen 5
              go_wp2_with fail
              refine ret_json Tryd.results19 rfl H5.out.2.2 fun W ho hJ => ?_
              exact ⟨_, _, _, _, _, _, x, j, code, hj, ⟨rfl, H5.out.1.only ho (by omega), H5.out.2.1.only ho (Nat.le_refl _)⟩, JRep.only HR.out ho (by exact hsz) (by exact Nat.le_of_lt hsz), by rw [HV.out]; exact HM.out⟩
            case neg =>
              have n91 : (C == 91) = false := beq_eq_false_iff_ne.2 hc
              have HN91 := Lib.hid hc
              clear hc
              by_cases hc : C = 123
              case pos =>
                have y1 : (C == 123) = true := beq_iff_eq.2 hc
                have HV := Lib.hid (rval_obj (s := s) (lv := lv) (i := i) (by have := HC.out; omega))
                clear hc
                go_quiet (fail)
                go_wp2_with fail
                go_quiet (fail)
                go_wp2_with fail
                go_quiet (fail)
                go_wp2_with fail
                refine (HOC.out g s i _ _ hs0 hlt (H3.out.1.drewN _) (by have := HD.out; omega)).mono ?_
                intro e w5 hx
                obtain ⟨a, b, c, d, Lv, Kv, x, j, code, hj, ⟨rfl, hp, hb⟩, hr, hm⟩ := hx
                obtain ⟨z1, z2, z3, z4, A1, l1, m1, A2, l2, m2, rfl, rfl, rfl, rfl, rfl, rfl⟩ := rep_form hr
                have HR := Lib.hid hr
                have HM := Lib.hid hm
                have hsz : w.heap.size < w13.heap.size := H3.out.2.2.lt
                clear hr hm p0 p1
                have H5 : Hid (RS w5 g s j code ∧ But g w w5 ∧ JB w5 w.heap.size (.int .i64 0) (.bool false) (.int .i64 0) (.string ⟨#[]⟩) (.slice none 0 0) (.slice none 0 0)) := ⟨hp, But.trans (by have := H3.out.2.1; (repeat' (first | (with_reducible exact But.refl _ _) | (with_reducible assumption) | (with_reducible refine But.drewN ?_ _) | (with_reducible refine But.drew ?_) | (with_reducible refine But.alloc ?_ _) | (with_reducible refine But.setOwn ?_ _ _)))) hb, JB.but (by exact H3.out.2.2) hb (by omega)⟩
                clear hp hb
                obtain ⟨k0, k1, k2, k3, k4, k5⟩ := H5.out.2.2.cell
                have f0 := H5.out.2.2.frozen 0
                have f1 := H5.out.2.2.frozen 1
                have f2 := H5.out.2.2.frozen 2
                have f3 := H5.out.2.2.frozen 3
                have f4 := H5.out.2.2.frozen 4
                have f5 := H5.out.2.2.frozen 5
                go_wp2_with fail
                refine ret_json Tryd.results19 rfl H5.out.2.2 fun W ho hJ => ?_
                exact ⟨_, _, _, _, _, _, x, j, code, hj, ⟨rfl, H5.out.1.only ho (by omega), H5.out.2.1.only ho (Nat.le_refl _)⟩, JRep.only HR.out ho (by exact hsz) (by exact Nat.le_of_lt hsz), by rw [HV.out]; exact HM.out⟩
              case neg =>
                have n123 : (C == 123) = false := beq_eq_false_iff_ne.2 hc
                have HN123 := Lib.hid hc
                clear hc
                by_cases hc : C = 45
                case pos =>
                  have HY : Hid (C = 45) := hc
                  have y1 : (C == 45) = true := beq_iff_eq.2 hc
                  clear hc
                  have HV := Lib.hid (rval_num (s := s) (lv := lv) (i := i) (by have := HC.out; have := HY.out; omega))
                  go_quiet (fail)
                  go_wp2_with fail
                  go_quiet (fail)
                  go_wp2_with fail
                  go_quiet (fail)
                  go_wp2_with fail
                  go_quiet (fail)
                  go_wp2_with fail
                  refine (rnumber_any g s i _ hs hi (H3.out.1.drewN _)).mono ?_
                  intro e w5 hx
                  have HX := Lib.hid hx
                  clear hx
                  cases ht : rnumS s i with
                  | none =>
                    have HE : Hid (rvalS s lv i = .error 300) := by show _ = _; rw [HV.out, ht]
                    obtain ⟨j, hj, rfl, hp, hb⟩ := HX.out.at_none ht
                    clear ht HX p0 p1
                    have H5 : Hid (RS w5 g s j 300 ∧ But g w w5 ∧ JB w5 w.heap.size (.int .i64 0) (.bool false) (.int .i64 0) (.string ⟨#[]⟩) (.slice none 0 0) (.slice none 0 0)) := ⟨hp, But.trans (by have := H3.out.2.1; (repeat' (first | (with_reducible exact But.refl _ _) | (with_reducible assumption) | (with_reducible refine But.drewN ?_ _) | (with_reducible refine But.drew ?_) | (with_reducible refine But.alloc ?_ _) | (with_reducible refine But.setOwn ?_ _ _)))) hb, JB.but (by exact H3.out.2.2) hb (by omega)⟩
                    clear hp hb
                    obtain ⟨k0, k1, k2, k3, k4, k5⟩ := H5.out.2.2.cell
                    have f0 := H5.out.2.2.frozen 0
                    have f1 := H5.out.2.2.frozen 1
                    have f2 := H5.out.2.2.frozen 2
                    have f3 := H5.out.2.2.frozen 3
                    have f4 := H5.out.2.2.frozen 4
                    have f5 := H5.out.2.2.frozen 5
                    go_wp2_with fail
                    refine ret_json Tryd.results19 rfl H5.out.2.2 fun W ho hJ => ?_
                    exact RJPost.no HE.out (by decide) hj ⟨rfl, H5.out.1.only ho (by omega), H5.out.2.1.only ho (Nat.le_refl _)⟩ (JRep.nils _ _ _ _ _ _)
                  | some q =>
                    obtain ⟨n, j⟩ := q
                    have HE : Hid (rvalS s lv i = .ok (.mk 2 false n ⟨#[]⟩ [] [], j)) := by show _ = _; rw [HV.out, ht]
                    have hj : j ≤ s.size := rnum_in ht hi
                    obtain ⟨rfl, hp, hb⟩ := HX.out.at_some ht
                    clear ht HX p0 p1
                    have H5 : Hid (RS w5 g s j 0 ∧ But g w w5 ∧ JB w5 w.heap.size (.int .i64 0) (.bool false) (.int .i64 0) (.string ⟨#[]⟩) (.slice none 0 0) (.slice none 0 0)) := ⟨hp, But.trans (by have := H3.out.2.1; (repeat' (first | (with_reducible exact But.refl _ _) | (with_reducible assumption) | (with_reducible refine But.drewN ?_ _) | (with_reducible refine But.drew ?_) | (with_reducible refine But.alloc ?_ _) | (with_reducible refine But.setOwn ?_ _ _)))) hb, JB.but (by exact H3.out.2.2) hb (by omega)⟩
                    clear hp hb
                    obtain ⟨k0, k1, k2, k3, k4, k5⟩ := H5.out.2.2.cell
                    have f0 := H5.out.2.2.frozen 0
                    have f1 := H5.out.2.2.frozen 1
                    have f2 := H5.out.2.2.frozen 2
                    have f3 := H5.out.2.2.frozen 3
                    have f4 := H5.out.2.2.frozen 4
                    have f5 := H5.out.2.2.frozen 5
                    go_wp2_with fail
                    refine ret_json Tryd.results19 rfl H5.out.2.2 fun W ho hJ => ?_
                    exact RJPost.yes HE.out hj ⟨rfl, H5.out.1.only ho (by omega), H5.out.2.1.only ho (Nat.le_refl _)⟩ (JRep.nils _ _ _ _ _ _)
                case neg =>
                  have n45 : (C == 45) = false := beq_eq_false_iff_ne.2 hc
                  by_cases d1 : 48 ≤ C
                  case neg =>
                    have HY : Hid (C ≠ 45 ∧ ¬ 48 ≤ C) := ⟨hc, d1⟩
                    have d1b : decide (48 ≤ C) = false := decide_eq_false d1
                    clear hc d1
                    have HE : Hid (rvalS s lv i = .error 300) := rval_bad HW0.out HW1.out HW2.out (by have := HC.out; have := HN34.out; have := HN91.out; have := HN123.out; have := HY.out; omega)
                    go_quiet (fail)
                    go_wp2_with fail
                    go_quiet (fail)
                    go_wp2_with fail
                    go_quiet (fail)
                    go_wp2_with fail
                    go_quiet (fail)
                    go_wp2_with fail
                    refine (rfail_first g s i 300 _ (H3.out.1.drewN _)).mono ?_
                    rintro e w5 ⟨rfl, hp, hb⟩
                    clear p0 p1
                    have H5 : Hid (RS w5 g s i 300 ∧ But g w w5 ∧ JB w5 w.heap.size (.int .i64 0) (.bool false) (.int .i64 0) (.string ⟨#[]⟩) (.slice none 0 0) (.slice none 0 0)) := ⟨hp, But.trans (by have := H3.out.2.1; (repeat' (first | (with_reducible exact But.refl _ _) | (with_reducible assumption) | (with_reducible refine But.drewN ?_ _) | (with_reducible refine But.drew ?_) | (with_reducible refine But.alloc ?_ _) | (with_reducible refine But.setOwn ?_ _ _)))) hb, JB.but (by exact H3.out.2.2) hb (by omega)⟩
                    clear hp hb
                    obtain ⟨k0, k1, k2, k3, k4, k5⟩ := H5.out.2.2.cell
                    have f0 := H5.out.2.2.frozen 0
                    have f1 := H5.out.2.2.frozen 1
                    have f2 := H5.out.2.2.frozen 2
                    have f3 := H5.out.2.2.frozen 3
                    have f4 := H5.out.2.2.frozen 4
                    have f5 := H5.out.2.2.frozen 5
                    go_wp2_with fail
                    refine ret_json Tryd.results19 rfl H5.out.2.2 fun W ho hJ => ?_
                    exact RJPost.no HE.out (by decide) hi ⟨rfl, H5.out.1.only ho (by omega), H5.out.2.1.only ho (Nat.le_refl _)⟩ (JRep.nils _ _ _ _ _ _)
                  case pos =>
                    by_cases d2 : C ≤ 57
                    case pos =>
                      have HY : Hid (48 ≤ C ∧ C ≤ 57) := ⟨d1, d2⟩
                      clear hc
                      have HV := Lib.hid (rval_num (s := s) (lv := lv) (i := i) (by have := HC.out; have := HY.out; omega))
                      go_quiet (fail)
                      go_wp2_with fail
                      go_quiet (fail)
                      go_wp2_with fail
                      go_quiet (fail)
                      go_wp2_with fail
                      go_quiet (fail)
                      go_wp2_with fail
                      refine (rnumber_any g s i _ hs hi (H3.out.1.drewN _)).mono ?_
                      intro e w5 hx
                      have HX := Lib.hid hx
                      clear hx
                      cases ht : rnumS s i with
                      | none =>
                        have HE : Hid (rvalS s lv i = .error 300) := by show _ = _; rw [HV.out, ht]
                        obtain ⟨j, hj, rfl, hp, hb⟩ := HX.out.at_none ht
                        clear ht HX p0 p1
                        have H5 : Hid (RS w5 g s j 300 ∧ But g w w5 ∧ JB w5 w.heap.size (.int .i64 0) (.bool false) (.int .i64 0) (.string ⟨#[]⟩) (.slice none 0 0) (.slice none 0 0)) := ⟨hp, But.trans (by have := H3.out.2.1; (repeat' (first | (with_reducible exact But.refl _ _) | (with_reducible assumption) | (with_reducible refine But.drewN ?_ _) | (with_reducible refine But.drew ?_) | (with_reducible refine But.alloc ?_ _) | (with_reducible refine But.setOwn ?_ _ _)))) hb, JB.but (by exact H3.out.2.2) hb (by omega)⟩
                        clear hp hb
                        obtain ⟨k0, k1, k2, k3, k4, k5⟩ := H5.out.2.2.cell
                        have f0 := H5.out.2.2.frozen 0
                        have f1 := H5.out.2.2.frozen 1
                        have f2 := H5.out.2.2.frozen 2
                        have f3 := H5.out.2.2.frozen 3
                        have f4 := H5.out.2.2.frozen 4
                        have f5 := H5.out.2.2.frozen 5
                        go_wp2_with fail
                        refine ret_json Tryd.results19 rfl H5.out.2.2 fun W ho hJ => ?_
                        exact RJPost.no HE.out (by decide) hj ⟨rfl, H5.out.1.only ho (by omega), H5.out.2.1.only ho (Nat.le_refl _)⟩ (JRep.nils _ _ _ _ _ _)
                      | some q =>
                        obtain ⟨n, j⟩ := q
                        have HE : Hid (rvalS s lv i = .ok (.mk 2 false n ⟨#[]⟩ [] [], j)) := by show _ = _; rw [HV.out, ht]
                        have hj : j ≤ s.size := rnum_in ht hi
                        obtain ⟨rfl, hp, hb⟩ := HX.out.at_some ht
                        clear ht HX p0 p1
                        have H5 : Hid (RS w5 g s j 0 ∧ But g w w5 ∧ JB w5 w.heap.size (.int .i64 0) (.bool false) (.int .i64 0) (.string ⟨#[]⟩) (.slice none 0 0) (.slice none 0 0)) := ⟨hp, But.trans (by have := H3.out.2.1; (repeat' (first | (with_reducible exact But.refl _ _) | (with_reducible assumption) | (with_reducible refine But.drewN ?_ _) | (with_reducible refine But.drew ?_) | (with_reducible refine But.alloc ?_ _) | (with_reducible refine But.setOwn ?_ _ _)))) hb, JB.but (by exact H3.out.2.2) hb (by omega)⟩
                        clear hp hb
                        obtain ⟨k0, k1, k2, k3, k4, k5⟩ := H5.out.2.2.cell
                        have f0 := H5.out.2.2.frozen 0
                        have f1 := H5.out.2.2.frozen 1
                        have f2 := H5.out.2.2.frozen 2
                        have f3 := H5.out.2.2.frozen 3
                        have f4 := H5.out.2.2.frozen 4
                        have f5 := H5.out.2.2.frozen 5
                        go_wp2_with fail
                        refine ret_json Tryd.results19 rfl H5.out.2.2 fun W ho hJ => ?_
                        exact RJPost.yes HE.out hj ⟨rfl, H5.out.1.only ho (by omega), H5.out.2.1.only ho (Nat.le_refl _)⟩ (JRep.nils _ _ _ _ _ _)
                    case neg =>
                      have HY : Hid (C ≠ 45 ∧ ¬ C ≤ 57) := ⟨hc, d2⟩
                      clear hc
                      have HE : Hid (rvalS s lv i = .error 300) := rval_bad HW0.out HW1.out HW2.out (by have := HC.out; have := HN34.out; have := HN91.out; have := HN123.out; have := HY.out; omega)
                      go_quiet (fail)
                      go_wp2_with fail
                      go_quiet (fail)
                      go_wp2_with fail
                      go_quiet (fail)
                      go_wp2_with fail
                      go_quiet (fail)
                      go_wp2_with fail
                      refine (rfail_first g s i 300 _ (H3.out.1.drewN _)).mono ?_
                      rintro e w5 ⟨rfl, hp, hb⟩
                      clear p0 p1
                      have H5 : Hid (RS w5 g s i 300 ∧ But g w w5 ∧ JB w5 w.heap.size (.int .i64 0) (.bool false) (.int .i64 0) (.string ⟨#[]⟩) (.slice none 0 0) (.slice none 0 0)) := ⟨hp, But.trans (by have := H3.out.2.1; (repeat' (first | (with_reducible exact But.refl _ _) | (with_reducible assumption) | (with_reducible refine But.drewN ?_ _) | (with_reducible refine But.drew ?_) | (with_reducible refine But.alloc ?_ _) | (with_reducible refine But.setOwn ?_ _ _)))) hb, JB.but (by exact H3.out.2.2) hb (by omega)⟩
                      clear hp hb
                      obtain ⟨k0, k1, k2, k3, k4, k5⟩ := H5.out.2.2.cell
                      have f0 := H5.out.2.2.frozen 0
                      have f1 := H5.out.2.2.frozen 1
                      have f2 := H5.out.2.2.frozen 2
                      have f3 := H5.out.2.2.frozen 3
                      have f4 := H5.out.2.2.frozen 4
                      have f5 := H5.out.2.2.frozen 5
                      go_wp2_with fail
                      refine ret_json Tryd.results19 rfl H5.out.2.2 fun W ho hJ => ?_
                      exact RJPost.no HE.out (by decide) hi ⟨rfl, H5.out.1.only ho (by omega), H5.out.2.1.only ho (Nat.le_refl _)⟩ (JRep.nils _ _ _ _ _ _)

end Go.Proofs.YtbhnfehpbbibbaaDoor

namespace Go.Proofs.YtbhnfehpbbibbaaDoor
open Go.RowKit

def RelP (s : ByteArray) (p r : Except Int (J × Nat)) : Prop := p = r ∨ ∃ x j, p = .ok (x, j) ∧ dotB s j = true ∧ r = .error 300
theorem dot_bt {s : ByteArray} {j : Nat} (h : dotB s j = true) : bt s j = 46 ∨ bt s j = 101 ∨ bt s j = 69 := of_decide_eq_true h
theorem dot_wh {s : ByteArray} {j : Nat} (h : dotB s j = true) : whS s j = j := whS_stop (fun _ => by have := dot_bt h; simp [isWh]; omega)
theorem dot_seq {s : ByteArray} {val : Nat → Except Int (J × Nat)} {obj : Bool} {f i : Nat} {keys : List ByteArray} {l : List J} (h : dotB s i = true) : seqS s val obj f false i keys l = .error 300 := by
  have := dot_bt h
  cases f with
  | zero => rfl
  | succ f => rw [seq_eq, if_neg (by cases obj <;> simp <;> omega), if_pos (by simp; omega)]
theorem seq_rel {s : ByteArray} {v v' : Nat → Except Int (J × Nat)} {obj : Bool} (h : ∀ i, RelP s (v i) (v' i)) : ∀ (f : Nat) (first : Bool) (i : Nat) (keys : List ByteArray) (l : List J), seqS s v obj f first i keys l = seqS s v' obj f first i keys l
  | 0, _, _, _, _ => rfl
  | f + 1, first, i, keys, l => by
    have step : ∀ (keys : List ByteArray) (i1 : Nat), (match v i1 with | .error e => (.error e : Except Int (J × Nat)) | .ok (j, i3) => seqS s v obj f false (whS s i3) keys (l ++ [j])) =
        (match v' i1 with | .error e => .error e | .ok (j, i3) => seqS s v' obj f false (whS s i3) keys (l ++ [j])) := by
      intro keys i1
      rcases h i1 with e | ⟨x, j, e1, e2, e3⟩
      · rw [e]
        cases v' i1 with
        | error c => rfl
        | ok p => exact seq_rel h f false _ _ _
      · rw [e1, e3]
        show seqS s v obj f false (whS s j) keys (l ++ [x]) = .error 300
        rw [dot_wh e2, dot_seq e2]
    rw [seq_eq, seq_eq]
    by_cases c1 : bt s i = (if obj then 125 else 93)
    · rw [if_pos c1, if_pos c1]
    · rw [if_neg c1, if_neg c1]
      by_cases c2 : (!first && bt s i != 44) = true
      · rw [if_pos c2, if_pos c2]
      · rw [if_neg c2, if_neg c2]
        generalize (if first then i else whS s (i + 1)) = i1
        unfold memS
        cases obj
        · simp only [Bool.false_eq_true, if_false]
          exact step _ _
        · simp only [if_true]
          cases textS s i1 with
          | none => rfl
          | some q =>
            obtain ⟨key, i2⟩ := q
            show (if _ then _ else _) = (if _ then _ else _)
            by_cases c3 : memB key keys = true
            · rw [if_pos c3, if_pos c3]
            · rw [if_neg c3, if_neg c3]
              by_cases c4 : bt s (whS s i2) = 58
              · rw [if_pos c4, if_pos c4]; exact step _ _
              · rw [if_neg c4, if_neg c4]
theorem val_rel (s : ByteArray) : ∀ (lv i : Nat), RelP s (valS s lv i) (rvalS s lv i) := by
  have num : ∀ i, RelP s (match numS s i with | none => .error 300 | some (n, j) => .ok (.mk 2 false n ⟨#[]⟩ [] [], j)) (match rnumS s i with | none => .error 300 | some (n, j) => .ok (.mk 2 false n ⟨#[]⟩ [] [], j)) := by
    intro i
    cases hn : numS s i with
    | none => rw [rnum_none hn]; exact .inl rfl
    | some p =>
      obtain ⟨n, k⟩ := p
      cases hd : dotB s k with
      | true => rw [rnum_dot hn hd]; exact .inr ⟨_, _, rfl, hd, rfl⟩
      | false => rw [rnum_ok hn hd]; exact .inl rfl
  have inn : ∀ (lv : Nat), (∀ i, RelP s (innerS s lv i (decide (bt s i = 123))) (rinnerS s lv i (decide (bt s i = 123)))) → ∀ i, RelP s (valS s lv i) (rvalS s lv i) := by
    intro lv hin i
    rw [valS_eq, rvalS_eq]
    by_cases c1 : bt s i = 110
    · rw [if_pos c1, if_pos c1]; exact .inl rfl
    rw [if_neg c1, if_neg c1]
    by_cases c2 : bt s i = 116
    · rw [if_pos c2, if_pos c2]; exact .inl rfl
    rw [if_neg c2, if_neg c2]
    by_cases c3 : bt s i = 102
    · rw [if_pos c3, if_pos c3]; exact .inl rfl
    rw [if_neg c3, if_neg c3]
    by_cases c4 : bt s i = 34
    · rw [if_pos c4, if_pos c4]; exact .inl (by cases txtS s (i + 1) <;> rfl)
    rw [if_neg c4, if_neg c4]
    by_cases c5 : bt s i = 91 ∨ bt s i = 123
    · rw [if_pos c5, if_pos c5]; exact hin i
    rw [if_neg c5, if_neg c5]
    exact num i
  intro lv
  induction lv with
  | zero => exact inn 0 fun i => .inl rfl
  | succ lv ih => exact inn (lv + 1) fun i => .inl (seq_rel ih _ _ _ _ _)
def rparseS (s : ByteArray) : Except Int J :=
  if 65536 < s.size then .error 302
  else match rvalS s 16 (whS s 0) with
    | .error e => .error e
    | .ok (j, i) => if whS s i = s.size then .ok j else .error 300
/-- the program's Parse and the reference's come to the same -/
theorem parse_same (s : ByteArray) : parseS s = rparseS s := by
  unfold parseS rparseS
  split
  · rfl
  · rcases val_rel s 16 (whS s 0) with e | ⟨x, j, e1, e2, e3⟩
    · rw [e]; cases rvalS s 16 (whS s 0) <;> rfl
    · rw [e1, e3]
      show (if whS s j = s.size then (.ok x : Except Int J) else .error 300) = .error 300
      rw [if_neg]
      rw [dot_wh e2]
      intro h
      have := dot_bt e2
      rw [bt_out (by omega)] at this
      omega

end Go.Proofs.YtbhnfehpbbibbaaDoor
