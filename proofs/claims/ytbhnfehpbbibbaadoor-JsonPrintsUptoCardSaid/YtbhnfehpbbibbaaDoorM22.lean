/- The reference's parser: number, for every text and place. -/
import Derived.Test.YtbhnfehpbbibbaaDoorM16

namespace Go.Proofs.YtbhnfehpbbibbaaDoor
open Go.RowKit

set_option maxRecDepth 100000 in
set_option maxHeartbeats 8000000 in
theorem rnumber_any (g : Nat) (s : ByteArray) (i : Nat) (w : World) (hs : s.size ≤ 140737488351232) (hi : i ≤ s.size) (h : RS w g s i 0) :
    Calls Tryd.prog 35 #[.pointer (some ⟨g, 0, none⟩)] w (RNumPost g s (rnumS s i) w) := by
  have HP := Lib.hid h
  clear h
  go_enter Tryd.func35, Tryd.ntmps35
  go_wp2_with fail
  refine (rword_any g s ⟨#[45]⟩ i 0 _ hs (by decide) HP.out hi).mono ?_
  rintro e w1 ⟨rfl, hp, hb⟩
  obtain ⟨m, hm⟩ : ∃ m, wordB s i ⟨#[45]⟩ = m := ⟨_, rfl⟩
  obtain ⟨f, hf⟩ : ∃ f, (if wordB s i ⟨#[45]⟩ = true then i + (ByteArray.mk #[45]).size else i) = f := ⟨_, rfl⟩
  rw [hf] at hp
  rw [hm]
  have hfs : f ≤ s.size := by
    rw [← hf]
    split
    · rename_i hw; exact wordB_in hw hi
    · exact hi
  have HM : Hid (m = decide (bt s i = 45)) := by
    show _ = _
    rw [← hm, word_one, Bool.eq_iff_iff]
    simp only [decide_eq_true_eq]
    exact ⟨fun h => h.2, fun h => ⟨bt_in (by rw [h]; decide), h⟩⟩
  have HF : Hid (f = if bt s i = 45 then i + 1 else i) := by
    show _ = _
    rw [← hf, hm, HM.out]
    by_cases h : bt s i = 45 <;> simp [h] <;> rfl
  have H1 : Hid (RS w1 g s f 0 ∧ But g w w1) := ⟨hp, hb⟩
  have p1 := hp.c1
  clear hp hb hf hm
  go_wp2_with fail
  go_loopg [5] (s.size - f) (fun n v wr => ∃ (k x : Nat) (X : Int), v = .int .i64 X ∧ X ≤ 0 ∧ -9223372036854775808 ≤ X ∧ f ≤ k ∧ k ≤ s.size ∧ n = s.size - k ∧ Hid (X = -(x : Int) ∧ RS wr g s k 0 ∧ But g w wr ∧ digS s f 0 = digS s k x))
  case atStart => exact ⟨f, 0, 0, rfl, by omega, by omega, by omega, by omega, rfl, rfl, H1.out.1, H1.out.2, rfl⟩
  case round =>
    obtain ⟨k, x, X, rfl, hX0, hX1, hfk, hk, hn, H⟩ := hrel
    have HN := Lib.hid hn
    clear hn p1
    have q0 := H.out.2.1.c0
    have q1 := H.out.2.1.c1
    have q3 := H.out.2.1.f1
    have H2 : Hid (RS wr g s k 0 ∧ But g w wr) := ⟨H.out.2.1, H.out.2.2.1⟩
    have HXx : Hid (X = -(x : Int)) := H.out.1
    have HDS : Hid (digS s f 0 = digS s k x) := H.out.2.2.2
    clear H
    by_cases hkl : k < s.size
    case neg =>
      have HI : Hid (isDig (bt s k) = false) := by show _ = _; rw [bt_out (by omega)]; decide
      have HDB : Hid (bt s k = 0) := bt_out (by omega)
      have hd : decide ((k : Int) < s.size) = false := decide_eq_false (by omega)
      have HV := Lib.hid (num_eq HF.out (HDS.out.trans (digS_stop HI.out)))
      by_cases ea : k = f
      · have HE : Hid (numS s i = none) := by show _ = _; rw [HV.out, if_pos (.inl ea)]
        have ea2 : ((k : Int) - (f : Int) == 0) = true := beq_iff_eq.2 (by omega)
        clear ea
        go_wp2_with fail
        go_quiet (fail)
        go_wp2_with fail
        refine (rfail_first g s k 300 _ (H2.out.1.drewN _)).mono ?_
        rintro e w6 ⟨rfl, hp, hb⟩
        go_wp2_with fail
        go_ret
        exact RNumPost.no (rnum_none HE.out) hk ⟨rfl, hp, But.trans (by have := H2.out.2; (repeat' (first | (with_reducible exact But.refl _ _) | (with_reducible assumption) | (with_reducible refine But.drewN ?_ _) | (with_reducible refine But.drew ?_) | (with_reducible refine But.alloc ?_ _) | (with_reducible refine But.setOwn ?_ _ _)))) hb⟩
      · have ea2 : ((k : Int) - (f : Int) == 0) = false := beq_eq_false_iff_ne.2 (by omega)
        have hfl : f < s.size := by omega
        have HBF := Lib.hid (bt_at hfl)
        by_cases eb : f + 1 < k
        · by_cases ec : bt s f = 48
          · have HE : Hid (numS s i = none) := by show _ = _; rw [HV.out, if_pos (.inr (.inl ⟨eb, ec⟩))]
            have ec2 : (((s[f]'hfl).toNat : Int) == 48) = true := beq_iff_eq.2 (by rw [← HBF.out, ec]; rfl)
            clear ec
            go_wp2_with fail
            go_quiet (fail)
            go_wp2_with fail
            refine (rfail_first g s k 300 _ (H2.out.1.drewN _)).mono ?_
            rintro e w6 ⟨rfl, hp, hb⟩
            go_wp2_with fail
            go_ret
            exact RNumPost.no (rnum_none HE.out) hk ⟨rfl, hp, But.trans (by have := H2.out.2; (repeat' (first | (with_reducible exact But.refl _ _) | (with_reducible assumption) | (with_reducible refine But.drewN ?_ _) | (with_reducible refine But.drew ?_) | (with_reducible refine But.alloc ?_ _) | (with_reducible refine But.setOwn ?_ _ _)))) hb⟩
          · have ec2 : (((s[f]'hfl).toNat : Int) == 48) = false := beq_eq_false_iff_ne.2 (by rw [← HBF.out]; omega)
            have HEAB : Hid (¬ k = f ∧ ¬ (f + 1 < k ∧ bt s f = 48)) := ⟨ea, fun h => ec h.2⟩
            clear ec
            cases m with
            | true =>
              have HM45 : Hid (bt s i = 45) := by have h := HM.out; show _ = _; exact of_decide_eq_true h.symm
              by_cases ex : X = 0
              · have HE : Hid (numS s i = none) := by show _ = _; rw [HV.out, if_pos (.inr (.inr ⟨HM45.out, by have := HXx.out; omega⟩))]
                have exb : (X == 0) = true := beq_iff_eq.2 ex
                clear ex
                go_wp2_with fail
                go_quiet (fail)
                go_wp2_with fail
                refine (rfail_first g s k 300 _ (H2.out.1.drewN _)).mono ?_
                rintro e w6 ⟨rfl, hp, hb⟩
                go_wp2_with fail
                go_ret
                exact RNumPost.no (rnum_none HE.out) hk ⟨rfl, hp, But.trans (by have := H2.out.2; (repeat' (first | (with_reducible exact But.refl _ _) | (with_reducible assumption) | (with_reducible refine But.drewN ?_ _) | (with_reducible refine But.drew ?_) | (with_reducible refine But.alloc ?_ _) | (with_reducible refine But.setOwn ?_ _ _)))) hb⟩
              · have exb : (X == 0) = false := beq_eq_false_iff_ne.2 ex
                have HS : Hid (numS s i = some (X, k)) := by
                  show _ = _
                  rw [HV.out, if_neg, if_pos HM45.out, if_pos (by have := HXx.out; omega), HXx.out]
                  have h1 := HXx.out
                  have h2 := HEAB.out
                  omega
                clear ex
                have HO : Hid (rnumS s i = some (X, k)) := rnum_ok HS.out (by unfold dotB; exact decide_eq_false (by have := HDB.out; omega))
                go_wp2_with fail
                go_quiet (fail)
                go_wp2_with fail
                go_quiet (fail)
                go_wp2_with fail
                go_ret
                exact RNumPost.yes HO.out ⟨rfl, by exact H2.out.1, (by have := H2.out.2; (repeat' (first | (with_reducible exact But.refl _ _) | (with_reducible assumption) | (with_reducible refine But.drewN ?_ _) | (with_reducible refine But.drew ?_) | (with_reducible refine But.alloc ?_ _) | (with_reducible refine But.setOwn ?_ _ _))))⟩
            | false =>
              have HM45 : Hid (bt s i ≠ 45) := by have h := HM.out; exact of_decide_eq_false h.symm
              by_cases ex : X = -9223372036854775808
              · have HE : Hid (numS s i = none) := by
                  show _ = _
                  rw [HV.out]
                  split
                  · rfl
                  · rw [if_neg HM45.out, if_neg (by have := HXx.out; omega)]
                have exb : (X == -9223372036854775808) = true := beq_iff_eq.2 ex
                clear ex
                go_wp2_with fail
                go_quiet (fail)
                go_wp2_with fail
                refine (rfail_first g s k 300 _ (H2.out.1.drewN _)).mono ?_
                rintro e w6 ⟨rfl, hp, hb⟩
                go_wp2_with fail
                go_ret
                exact RNumPost.no (rnum_none HE.out) hk ⟨rfl, hp, But.trans (by have := H2.out.2; (repeat' (first | (with_reducible exact But.refl _ _) | (with_reducible assumption) | (with_reducible refine But.drewN ?_ _) | (with_reducible refine But.drew ?_) | (with_reducible refine But.alloc ?_ _) | (with_reducible refine But.setOwn ?_ _ _)))) hb⟩
              · have exb : (X == -9223372036854775808) = false := beq_eq_false_iff_ne.2 ex
                have HS : Hid (numS s i = some (-X, k)) := by
                  show _ = _
                  have e : -X = (x : Int) := by have := HXx.out; omega
                  rw [HV.out, if_neg, if_neg HM45.out, if_pos (by have := HXx.out; omega), e]
                  have h1 := HXx.out
                  have h2 := HEAB.out
                  have h3 := HM45.out
                  omega
                have hX3 : -9223372036854775807 ≤ X := by omega
                have eW : IntKind.i64.wrap (-X) = -X := IntWalk.i64_in _ ⟨by omega, by omega⟩
                clear ex
                have HO : Hid (rnumS s i = some (-X, k)) := rnum_ok HS.out (by unfold dotB; exact decide_eq_false (by have := HDB.out; omega))
                go_wp2_with fail
                go_quiet (fail)
                go_wp2_with fail
                go_quiet (fail)
                go_wp2_with fail
                go_ret
                exact RNumPost.yes HO.out ⟨rfl, by exact H2.out.1, (by have := H2.out.2; (repeat' (first | (with_reducible exact But.refl _ _) | (with_reducible assumption) | (with_reducible refine But.drewN ?_ _) | (with_reducible refine But.drew ?_) | (with_reducible refine But.alloc ?_ _) | (with_reducible refine But.setOwn ?_ _ _))))⟩
        · have HEAB : Hid (¬ k = f ∧ ¬ (f + 1 < k ∧ bt s f = 48)) := ⟨ea, fun h => eb h.1⟩
          cases m with
          | true =>
            have HM45 : Hid (bt s i = 45) := by have h := HM.out; show _ = _; exact of_decide_eq_true h.symm
            by_cases ex : X = 0
            · have HE : Hid (numS s i = none) := by show _ = _; rw [HV.out, if_pos (.inr (.inr ⟨HM45.out, by have := HXx.out; omega⟩))]
              have exb : (X == 0) = true := beq_iff_eq.2 ex
              clear ex
              go_wp2_with fail
              go_quiet (fail)
              go_wp2_with fail
              refine (rfail_first g s k 300 _ (H2.out.1.drewN _)).mono ?_
              rintro e w6 ⟨rfl, hp, hb⟩
              go_wp2_with fail
              go_ret
              exact RNumPost.no (rnum_none HE.out) hk ⟨rfl, hp, But.trans (by have := H2.out.2; (repeat' (first | (with_reducible exact But.refl _ _) | (with_reducible assumption) | (with_reducible refine But.drewN ?_ _) | (with_reducible refine But.drew ?_) | (with_reducible refine But.alloc ?_ _) | (with_reducible refine But.setOwn ?_ _ _)))) hb⟩
            · have exb : (X == 0) = false := beq_eq_false_iff_ne.2 ex
              have HS : Hid (numS s i = some (X, k)) := by
                show _ = _
                rw [HV.out, if_neg, if_pos HM45.out, if_pos (by have := HXx.out; omega), HXx.out]
                have h1 := HXx.out
                have h2 := HEAB.out
                omega
              clear ex
              have HO : Hid (rnumS s i = some (X, k)) := rnum_ok HS.out (by unfold dotB; exact decide_eq_false (by have := HDB.out; omega))
              go_wp2_with fail
              go_quiet (fail)
              go_wp2_with fail
              go_quiet (fail)
              go_wp2_with fail
              go_ret
              exact RNumPost.yes HO.out ⟨rfl, by exact H2.out.1, (by have := H2.out.2; (repeat' (first | (with_reducible exact But.refl _ _) | (with_reducible assumption) | (with_reducible refine But.drewN ?_ _) | (with_reducible refine But.drew ?_) | (with_reducible refine But.alloc ?_ _) | (with_reducible refine But.setOwn ?_ _ _))))⟩
          | false =>
            have HM45 : Hid (bt s i ≠ 45) := by have h := HM.out; exact of_decide_eq_false h.symm
            by_cases ex : X = -9223372036854775808
            · have HE : Hid (numS s i = none) := by
                show _ = _
                rw [HV.out]
                split
                · rfl
                · rw [if_neg HM45.out, if_neg (by have := HXx.out; omega)]
              have exb : (X == -9223372036854775808) = true := beq_iff_eq.2 ex
              clear ex
              go_wp2_with fail
              go_quiet (fail)
              go_wp2_with fail
              refine (rfail_first g s k 300 _ (H2.out.1.drewN _)).mono ?_
              rintro e w6 ⟨rfl, hp, hb⟩
              go_wp2_with fail
              go_ret
              exact RNumPost.no (rnum_none HE.out) hk ⟨rfl, hp, But.trans (by have := H2.out.2; (repeat' (first | (with_reducible exact But.refl _ _) | (with_reducible assumption) | (with_reducible refine But.drewN ?_ _) | (with_reducible refine But.drew ?_) | (with_reducible refine But.alloc ?_ _) | (with_reducible refine But.setOwn ?_ _ _)))) hb⟩
            · have exb : (X == -9223372036854775808) = false := beq_eq_false_iff_ne.2 ex
              have HS : Hid (numS s i = some (-X, k)) := by
                show _ = _
                have e : -X = (x : Int) := by have := HXx.out; omega
                rw [HV.out, if_neg, if_neg HM45.out, if_pos (by have := HXx.out; omega), e]
                have h1 := HXx.out
                have h2 := HEAB.out
                have h3 := HM45.out
                omega
              have hX3 : -9223372036854775807 ≤ X := by omega
              have eW : IntKind.i64.wrap (-X) = -X := IntWalk.i64_in _ ⟨by omega, by omega⟩
              clear ex
              have HO : Hid (rnumS s i = some (-X, k)) := rnum_ok HS.out (by unfold dotB; exact decide_eq_false (by have := HDB.out; omega))
              go_wp2_with fail
              go_quiet (fail)
              go_wp2_with fail
              go_quiet (fail)
              go_wp2_with fail
              go_ret
              exact RNumPost.yes HO.out ⟨rfl, by exact H2.out.1, (by have := H2.out.2; (repeat' (first | (with_reducible exact But.refl _ _) | (with_reducible assumption) | (with_reducible refine But.drewN ?_ _) | (with_reducible refine But.drew ?_) | (with_reducible refine But.alloc ?_ _) | (with_reducible refine But.setOwn ?_ _ _))))⟩
    case pos =>
      have hd : decide ((k : Int) < s.size) = true := decide_eq_true (by omega)
      have HB := Lib.hid (bt_at hkl)
      have hc1 := bt_lt s k
      rw [HB.out] at hc1
      obtain ⟨D, hD⟩ : ∃ D : Int, ((s[k]'hkl).toNat : Int) = D := ⟨_, rfl⟩
      have HDB : Hid (D = bt s k) := by show _ = _; rw [HB.out, hD]
      have hD0 : 0 ≤ D := by omega
      have hD1 : D < 256 := by omega
      clear hc1
      by_cases d1 : 48 ≤ D
      case neg =>
        have HI : Hid (isDig (bt s k) = false) := by have := HDB.out; show _ = _; simp only [isDig, decide_eq_false_iff_not]; omega
        have d1b : decide (48 ≤ D) = false := decide_eq_false d1
        have HD1 := Lib.hid d1
        clear d1
        have HV := Lib.hid (num_eq HF.out (HDS.out.trans (digS_stop HI.out)))
        by_cases ea : k = f
        · have HE : Hid (numS s i = none) := by show _ = _; rw [HV.out, if_pos (.inl ea)]
          have ea2 : ((k : Int) - (f : Int) == 0) = true := beq_iff_eq.2 (by omega)
          clear ea
          go_wp2_with fail
          go_quiet (fail)
          go_wp2_with fail
          refine (rfail_first g s k 300 _ (H2.out.1.drewN _)).mono ?_
          rintro e w6 ⟨rfl, hp, hb⟩
          go_wp2_with fail
          go_ret
          exact RNumPost.no (rnum_none HE.out) hk ⟨rfl, hp, But.trans (by have := H2.out.2; (repeat' (first | (with_reducible exact But.refl _ _) | (with_reducible assumption) | (with_reducible refine But.drewN ?_ _) | (with_reducible refine But.drew ?_) | (with_reducible refine But.alloc ?_ _) | (with_reducible refine But.setOwn ?_ _ _)))) hb⟩
        · have ea2 : ((k : Int) - (f : Int) == 0) = false := beq_eq_false_iff_ne.2 (by omega)
          have hfl : f < s.size := by omega
          have HBF := Lib.hid (bt_at hfl)
          by_cases eb : f + 1 < k
          · by_cases ec : bt s f = 48
            · have HE : Hid (numS s i = none) := by show _ = _; rw [HV.out, if_pos (.inr (.inl ⟨eb, ec⟩))]
              have ec2 : (((s[f]'hfl).toNat : Int) == 48) = true := beq_iff_eq.2 (by rw [← HBF.out, ec]; rfl)
              clear ec
              go_wp2_with fail
              go_quiet (fail)
              go_wp2_with fail
              refine (rfail_first g s k 300 _ (H2.out.1.drewN _)).mono ?_
              rintro e w6 ⟨rfl, hp, hb⟩
              go_wp2_with fail
              go_ret
              exact RNumPost.no (rnum_none HE.out) hk ⟨rfl, hp, But.trans (by have := H2.out.2; (repeat' (first | (with_reducible exact But.refl _ _) | (with_reducible assumption) | (with_reducible refine But.drewN ?_ _) | (with_reducible refine But.drew ?_) | (with_reducible refine But.alloc ?_ _) | (with_reducible refine But.setOwn ?_ _ _)))) hb⟩
            · have ec2 : (((s[f]'hfl).toNat : Int) == 48) = false := beq_eq_false_iff_ne.2 (by rw [← HBF.out]; omega)
              have HEAB : Hid (¬ k = f ∧ ¬ (f + 1 < k ∧ bt s f = 48)) := ⟨ea, fun h => ec h.2⟩
              clear ec
              cases m with
              | true =>
                have HM45 : Hid (bt s i = 45) := by have h := HM.out; show _ = _; exact of_decide_eq_true h.symm
                by_cases ex : X = 0
                · have HE : Hid (numS s i = none) := by show _ = _; rw [HV.out, if_pos (.inr (.inr ⟨HM45.out, by have := HXx.out; omega⟩))]
                  have exb : (X == 0) = true := beq_iff_eq.2 ex
                  clear ex
                  go_wp2_with fail
                  go_quiet (fail)
                  go_wp2_with fail
                  refine (rfail_first g s k 300 _ (H2.out.1.drewN _)).mono ?_
                  rintro e w6 ⟨rfl, hp, hb⟩
                  go_wp2_with fail
                  go_ret
                  exact RNumPost.no (rnum_none HE.out) hk ⟨rfl, hp, But.trans (by have := H2.out.2; (repeat' (first | (with_reducible exact But.refl _ _) | (with_reducible assumption) | (with_reducible refine But.drewN ?_ _) | (with_reducible refine But.drew ?_) | (with_reducible refine But.alloc ?_ _) | (with_reducible refine But.setOwn ?_ _ _)))) hb⟩
                · have exb : (X == 0) = false := beq_eq_false_iff_ne.2 ex
                  have HS : Hid (numS s i = some (X, k)) := by
                    show _ = _
                    rw [HV.out, if_neg, if_pos HM45.out, if_pos (by have := HXx.out; omega), HXx.out]
                    have h1 := HXx.out
                    have h2 := HEAB.out
                    omega
                  clear ex
                  by_cases g1 : D = 46
                  · have g1b : (D == 46) = true := beq_iff_eq.2 g1
                    have HO : Hid (rnumS s i = none) := rnum_dot HS.out (by unfold dotB; exact decide_eq_true (by have := HDB.out; omega))
                    go_wp2_with fail
                    go_quiet (fail)
                    go_wp2_with fail
                    go_quiet (fail)
                    go_wp2_with fail
                    refine (rfail_first g s k 300 _ (H2.out.1.drewN _)).mono ?_
                    rintro e w6 ⟨rfl, hp, hb⟩
                    go_wp2_with fail
                    go_ret
                    exact RNumPost.no HO.out hk ⟨rfl, hp, But.trans (by have := H2.out.2; (repeat' (first | (with_reducible exact But.refl _ _) | (with_reducible assumption) | (with_reducible refine But.drewN ?_ _) | (with_reducible refine But.drew ?_) | (with_reducible refine But.alloc ?_ _) | (with_reducible refine But.setOwn ?_ _ _)))) hb⟩
                  · have g1b : (D == 46) = false := beq_eq_false_iff_ne.2 g1
                    have g2b : (D == 101) = false := beq_eq_false_iff_ne.2 (by have := HD1.out; omega)
                    have g3b : (D == 69) = false := beq_eq_false_iff_ne.2 (by have := HD1.out; omega)
                    have HO : Hid (rnumS s i = some (X, k)) := rnum_ok HS.out (by unfold dotB; exact decide_eq_false (by have := HDB.out; have := HD1.out; omega))
                    go_wp2_with fail
                    go_quiet (fail)
                    go_wp2_with fail
                    go_quiet (fail)
                    go_wp2_with fail
                    go_ret
                    exact RNumPost.yes HO.out ⟨rfl, by exact H2.out.1, (by have := H2.out.2; (repeat' (first | (with_reducible exact But.refl _ _) | (with_reducible assumption) | (with_reducible refine But.drewN ?_ _) | (with_reducible refine But.drew ?_) | (with_reducible refine But.alloc ?_ _) | (with_reducible refine But.setOwn ?_ _ _))))⟩
              | false =>
                have HM45 : Hid (bt s i ≠ 45) := by have h := HM.out; exact of_decide_eq_false h.symm
                by_cases ex : X = -9223372036854775808
                · have HE : Hid (numS s i = none) := by
                    show _ = _
                    rw [HV.out]
                    split
                    · rfl
                    · rw [if_neg HM45.out, if_neg (by have := HXx.out; omega)]
                  have exb : (X == -9223372036854775808) = true := beq_iff_eq.2 ex
                  clear ex
                  go_wp2_with fail
                  go_quiet (fail)
                  go_wp2_with fail
                  refine (rfail_first g s k 300 _ (H2.out.1.drewN _)).mono ?_
                  rintro e w6 ⟨rfl, hp, hb⟩
                  go_wp2_with fail
                  go_ret
                  exact RNumPost.no (rnum_none HE.out) hk ⟨rfl, hp, But.trans (by have := H2.out.2; (repeat' (first | (with_reducible exact But.refl _ _) | (with_reducible assumption) | (with_reducible refine But.drewN ?_ _) | (with_reducible refine But.drew ?_) | (with_reducible refine But.alloc ?_ _) | (with_reducible refine But.setOwn ?_ _ _)))) hb⟩
                · have exb : (X == -9223372036854775808) = false := beq_eq_false_iff_ne.2 ex
                  have HS : Hid (numS s i = some (-X, k)) := by
                    show _ = _
                    have e : -X = (x : Int) := by have := HXx.out; omega
                    rw [HV.out, if_neg, if_neg HM45.out, if_pos (by have := HXx.out; omega), e]
                    have h1 := HXx.out
                    have h2 := HEAB.out
                    have h3 := HM45.out
                    omega
                  have hX3 : -9223372036854775807 ≤ X := by omega
                  have eW : IntKind.i64.wrap (-X) = -X := IntWalk.i64_in _ ⟨by omega, by omega⟩
                  clear ex
                  by_cases g1 : D = 46
                  · have g1b : (D == 46) = true := beq_iff_eq.2 g1
                    have HO : Hid (rnumS s i = none) := rnum_dot HS.out (by unfold dotB; exact decide_eq_true (by have := HDB.out; omega))
                    go_wp2_with fail
                    go_quiet (fail)
                    go_wp2_with fail
                    go_quiet (fail)
                    go_wp2_with fail
                    refine (rfail_first g s k 300 _ (H2.out.1.drewN _)).mono ?_
                    rintro e w6 ⟨rfl, hp, hb⟩
                    go_wp2_with fail
                    go_ret
                    exact RNumPost.no HO.out hk ⟨rfl, hp, But.trans (by have := H2.out.2; (repeat' (first | (with_reducible exact But.refl _ _) | (with_reducible assumption) | (with_reducible refine But.drewN ?_ _) | (with_reducible refine But.drew ?_) | (with_reducible refine But.alloc ?_ _) | (with_reducible refine But.setOwn ?_ _ _)))) hb⟩
                  · have g1b : (D == 46) = false := beq_eq_false_iff_ne.2 g1
                    have g2b : (D == 101) = false := beq_eq_false_iff_ne.2 (by have := HD1.out; omega)
                    have g3b : (D == 69) = false := beq_eq_false_iff_ne.2 (by have := HD1.out; omega)
                    have HO : Hid (rnumS s i = some (-X, k)) := rnum_ok HS.out (by unfold dotB; exact decide_eq_false (by have := HDB.out; have := HD1.out; omega))
                    go_wp2_with fail
                    go_quiet (fail)
                    go_wp2_with fail
                    go_quiet (fail)
                    go_wp2_with fail
                    go_ret
                    exact RNumPost.yes HO.out ⟨rfl, by exact H2.out.1, (by have := H2.out.2; (repeat' (first | (with_reducible exact But.refl _ _) | (with_reducible assumption) | (with_reducible refine But.drewN ?_ _) | (with_reducible refine But.drew ?_) | (with_reducible refine But.alloc ?_ _) | (with_reducible refine But.setOwn ?_ _ _))))⟩
          · have HEAB : Hid (¬ k = f ∧ ¬ (f + 1 < k ∧ bt s f = 48)) := ⟨ea, fun h => eb h.1⟩
            cases m with
            | true =>
              have HM45 : Hid (bt s i = 45) := by have h := HM.out; show _ = _; exact of_decide_eq_true h.symm
              by_cases ex : X = 0
              · have HE : Hid (numS s i = none) := by show _ = _; rw [HV.out, if_pos (.inr (.inr ⟨HM45.out, by have := HXx.out; omega⟩))]
                have exb : (X == 0) = true := beq_iff_eq.2 ex
                clear ex
                go_wp2_with fail
                go_quiet (fail)
                go_wp2_with fail
                refine (rfail_first g s k 300 _ (H2.out.1.drewN _)).mono ?_
                rintro e w6 ⟨rfl, hp, hb⟩
                go_wp2_with fail
                go_ret
                exact RNumPost.no (rnum_none HE.out) hk ⟨rfl, hp, But.trans (by have := H2.out.2; (repeat' (first | (with_reducible exact But.refl _ _) | (with_reducible assumption) | (with_reducible refine But.drewN ?_ _) | (with_reducible refine But.drew ?_) | (with_reducible refine But.alloc ?_ _) | (with_reducible refine But.setOwn ?_ _ _)))) hb⟩
              · have exb : (X == 0) = false := beq_eq_false_iff_ne.2 ex
                have HS : Hid (numS s i = some (X, k)) := by
                  show _ = _
                  rw [HV.out, if_neg, if_pos HM45.out, if_pos (by have := HXx.out; omega), HXx.out]
                  have h1 := HXx.out
                  have h2 := HEAB.out
                  omega
                clear ex
                by_cases g1 : D = 46
                · have g1b : (D == 46) = true := beq_iff_eq.2 g1
                  have HO : Hid (rnumS s i = none) := rnum_dot HS.out (by unfold dotB; exact decide_eq_true (by have := HDB.out; omega))
                  go_wp2_with fail
                  go_quiet (fail)
                  go_wp2_with fail
                  go_quiet (fail)
                  go_wp2_with fail
                  refine (rfail_first g s k 300 _ (H2.out.1.drewN _)).mono ?_
                  rintro e w6 ⟨rfl, hp, hb⟩
                  go_wp2_with fail
                  go_ret
                  exact RNumPost.no HO.out hk ⟨rfl, hp, But.trans (by have := H2.out.2; (repeat' (first | (with_reducible exact But.refl _ _) | (with_reducible assumption) | (with_reducible refine But.drewN ?_ _) | (with_reducible refine But.drew ?_) | (with_reducible refine But.alloc ?_ _) | (with_reducible refine But.setOwn ?_ _ _)))) hb⟩
                · have g1b : (D == 46) = false := beq_eq_false_iff_ne.2 g1
                  have g2b : (D == 101) = false := beq_eq_false_iff_ne.2 (by have := HD1.out; omega)
                  have g3b : (D == 69) = false := beq_eq_false_iff_ne.2 (by have := HD1.out; omega)
                  have HO : Hid (rnumS s i = some (X, k)) := rnum_ok HS.out (by unfold dotB; exact decide_eq_false (by have := HDB.out; have := HD1.out; omega))
                  go_wp2_with fail
                  go_quiet (fail)
                  go_wp2_with fail
                  go_quiet (fail)
                  go_wp2_with fail
                  go_ret
                  exact RNumPost.yes HO.out ⟨rfl, by exact H2.out.1, (by have := H2.out.2; (repeat' (first | (with_reducible exact But.refl _ _) | (with_reducible assumption) | (with_reducible refine But.drewN ?_ _) | (with_reducible refine But.drew ?_) | (with_reducible refine But.alloc ?_ _) | (with_reducible refine But.setOwn ?_ _ _))))⟩
            | false =>
              have HM45 : Hid (bt s i ≠ 45) := by have h := HM.out; exact of_decide_eq_false h.symm
              by_cases ex : X = -9223372036854775808
              · have HE : Hid (numS s i = none) := by
                  show _ = _
                  rw [HV.out]
                  split
                  · rfl
                  · rw [if_neg HM45.out, if_neg (by have := HXx.out; omega)]
                have exb : (X == -9223372036854775808) = true := beq_iff_eq.2 ex
                clear ex
                go_wp2_with fail
                go_quiet (fail)
                go_wp2_with fail
                refine (rfail_first g s k 300 _ (H2.out.1.drewN _)).mono ?_
                rintro e w6 ⟨rfl, hp, hb⟩
                go_wp2_with fail
                go_ret
                exact RNumPost.no (rnum_none HE.out) hk ⟨rfl, hp, But.trans (by have := H2.out.2; (repeat' (first | (with_reducible exact But.refl _ _) | (with_reducible assumption) | (with_reducible refine But.drewN ?_ _) | (with_reducible refine But.drew ?_) | (with_reducible refine But.alloc ?_ _) | (with_reducible refine But.setOwn ?_ _ _)))) hb⟩
              · have exb : (X == -9223372036854775808) = false := beq_eq_false_iff_ne.2 ex
                have HS : Hid (numS s i = some (-X, k)) := by
                  show _ = _
                  have e : -X = (x : Int) := by have := HXx.out; omega
                  rw [HV.out, if_neg, if_neg HM45.out, if_pos (by have := HXx.out; omega), e]
                  have h1 := HXx.out
                  have h2 := HEAB.out
                  have h3 := HM45.out
                  omega
                have hX3 : -9223372036854775807 ≤ X := by omega
                have eW : IntKind.i64.wrap (-X) = -X := IntWalk.i64_in _ ⟨by omega, by omega⟩
                clear ex
                by_cases g1 : D = 46
                · have g1b : (D == 46) = true := beq_iff_eq.2 g1
                  have HO : Hid (rnumS s i = none) := rnum_dot HS.out (by unfold dotB; exact decide_eq_true (by have := HDB.out; omega))
                  go_wp2_with fail
                  go_quiet (fail)
                  go_wp2_with fail
                  go_quiet (fail)
                  go_wp2_with fail
                  refine (rfail_first g s k 300 _ (H2.out.1.drewN _)).mono ?_
                  rintro e w6 ⟨rfl, hp, hb⟩
                  go_wp2_with fail
                  go_ret
                  exact RNumPost.no HO.out hk ⟨rfl, hp, But.trans (by have := H2.out.2; (repeat' (first | (with_reducible exact But.refl _ _) | (with_reducible assumption) | (with_reducible refine But.drewN ?_ _) | (with_reducible refine But.drew ?_) | (with_reducible refine But.alloc ?_ _) | (with_reducible refine But.setOwn ?_ _ _)))) hb⟩
                · have g1b : (D == 46) = false := beq_eq_false_iff_ne.2 g1
                  have g2b : (D == 101) = false := beq_eq_false_iff_ne.2 (by have := HD1.out; omega)
                  have g3b : (D == 69) = false := beq_eq_false_iff_ne.2 (by have := HD1.out; omega)
                  have HO : Hid (rnumS s i = some (-X, k)) := rnum_ok HS.out (by unfold dotB; exact decide_eq_false (by have := HDB.out; have := HD1.out; omega))
                  go_wp2_with fail
                  go_quiet (fail)
                  go_wp2_with fail
                  go_quiet (fail)
                  go_wp2_with fail
                  go_ret
                  exact RNumPost.yes HO.out ⟨rfl, by exact H2.out.1, (by have := H2.out.2; (repeat' (first | (with_reducible exact But.refl _ _) | (with_reducible assumption) | (with_reducible refine But.drewN ?_ _) | (with_reducible refine But.drew ?_) | (with_reducible refine But.alloc ?_ _) | (with_reducible refine But.setOwn ?_ _ _))))⟩
      case pos =>
        by_cases d2 : D ≤ 57
        case neg =>
          have HI : Hid (isDig (bt s k) = false) := by have := HDB.out; show _ = _; simp only [isDig, decide_eq_false_iff_not]; omega
          have HV := Lib.hid (num_eq HF.out (HDS.out.trans (digS_stop HI.out)))
          by_cases ea : k = f
          · have HE : Hid (numS s i = none) := by show _ = _; rw [HV.out, if_pos (.inl ea)]
            have ea2 : ((k : Int) - (f : Int) == 0) = true := beq_iff_eq.2 (by omega)
            clear ea
            go_wp2_with fail
            go_quiet (fail)
            go_wp2_with fail
            refine (rfail_first g s k 300 _ (H2.out.1.drewN _)).mono ?_
            rintro e w6 ⟨rfl, hp, hb⟩
            go_wp2_with fail
            go_ret
            exact RNumPost.no (rnum_none HE.out) hk ⟨rfl, hp, But.trans (by have := H2.out.2; (repeat' (first | (with_reducible exact But.refl _ _) | (with_reducible assumption) | (with_reducible refine But.drewN ?_ _) | (with_reducible refine But.drew ?_) | (with_reducible refine But.alloc ?_ _) | (with_reducible refine But.setOwn ?_ _ _)))) hb⟩
          · have ea2 : ((k : Int) - (f : Int) == 0) = false := beq_eq_false_iff_ne.2 (by omega)
            have hfl : f < s.size := by omega
            have HBF := Lib.hid (bt_at hfl)
            by_cases eb : f + 1 < k
            · by_cases ec : bt s f = 48
              · have HE : Hid (numS s i = none) := by show _ = _; rw [HV.out, if_pos (.inr (.inl ⟨eb, ec⟩))]
                have ec2 : (((s[f]'hfl).toNat : Int) == 48) = true := beq_iff_eq.2 (by rw [← HBF.out, ec]; rfl)
                clear ec
                go_wp2_with fail
                go_quiet (fail)
                go_wp2_with fail
                refine (rfail_first g s k 300 _ (H2.out.1.drewN _)).mono ?_
                rintro e w6 ⟨rfl, hp, hb⟩
                go_wp2_with fail
                go_ret
                exact RNumPost.no (rnum_none HE.out) hk ⟨rfl, hp, But.trans (by have := H2.out.2; (repeat' (first | (with_reducible exact But.refl _ _) | (with_reducible assumption) | (with_reducible refine But.drewN ?_ _) | (with_reducible refine But.drew ?_) | (with_reducible refine But.alloc ?_ _) | (with_reducible refine But.setOwn ?_ _ _)))) hb⟩
              · have ec2 : (((s[f]'hfl).toNat : Int) == 48) = false := beq_eq_false_iff_ne.2 (by rw [← HBF.out]; omega)
                have HEAB : Hid (¬ k = f ∧ ¬ (f + 1 < k ∧ bt s f = 48)) := ⟨ea, fun h => ec h.2⟩
                clear ec
                cases m with
                | true =>
                  have HM45 : Hid (bt s i = 45) := by have h := HM.out; show _ = _; exact of_decide_eq_true h.symm
                  by_cases ex : X = 0
                  · have HE : Hid (numS s i = none) := by show _ = _; rw [HV.out, if_pos (.inr (.inr ⟨HM45.out, by have := HXx.out; omega⟩))]
                    have exb : (X == 0) = true := beq_iff_eq.2 ex
                    clear ex
                    go_wp2_with fail
                    go_quiet (fail)
                    go_wp2_with fail
                    refine (rfail_first g s k 300 _ (H2.out.1.drewN _)).mono ?_
                    rintro e w6 ⟨rfl, hp, hb⟩
                    go_wp2_with fail
                    go_ret
                    exact RNumPost.no (rnum_none HE.out) hk ⟨rfl, hp, But.trans (by have := H2.out.2; (repeat' (first | (with_reducible exact But.refl _ _) | (with_reducible assumption) | (with_reducible refine But.drewN ?_ _) | (with_reducible refine But.drew ?_) | (with_reducible refine But.alloc ?_ _) | (with_reducible refine But.setOwn ?_ _ _)))) hb⟩
                  · have exb : (X == 0) = false := beq_eq_false_iff_ne.2 ex
                    have HS : Hid (numS s i = some (X, k)) := by
                      show _ = _
                      rw [HV.out, if_neg, if_pos HM45.out, if_pos (by have := HXx.out; omega), HXx.out]
                      have h1 := HXx.out
                      have h2 := HEAB.out
                      omega
                    clear ex
                    have g1b : (D == 46) = false := beq_eq_false_iff_ne.2 (by omega)
                    by_cases g2 : D = 101
                    · have g2b : (D == 101) = true := beq_iff_eq.2 g2
                      have HO : Hid (rnumS s i = none) := rnum_dot HS.out (by unfold dotB; exact decide_eq_true (by have := HDB.out; omega))
                      go_wp2_with fail
                      go_quiet (fail)
                      go_wp2_with fail
                      go_quiet (fail)
                      go_wp2_with fail
                      refine (rfail_first g s k 300 _ (H2.out.1.drewN _)).mono ?_
                      rintro e w6 ⟨rfl, hp, hb⟩
                      go_wp2_with fail
                      go_ret
                      exact RNumPost.no HO.out hk ⟨rfl, hp, But.trans (by have := H2.out.2; (repeat' (first | (with_reducible exact But.refl _ _) | (with_reducible assumption) | (with_reducible refine But.drewN ?_ _) | (with_reducible refine But.drew ?_) | (with_reducible refine But.alloc ?_ _) | (with_reducible refine But.setOwn ?_ _ _)))) hb⟩
                    · have g2b : (D == 101) = false := beq_eq_false_iff_ne.2 g2
                      by_cases g3 : D = 69
                      · have g3b : (D == 69) = true := beq_iff_eq.2 g3
                        have HO : Hid (rnumS s i = none) := rnum_dot HS.out (by unfold dotB; exact decide_eq_true (by have := HDB.out; omega))
                        go_wp2_with fail
                        go_quiet (fail)
                        go_wp2_with fail
                        go_quiet (fail)
                        go_wp2_with fail
                        refine (rfail_first g s k 300 _ (H2.out.1.drewN _)).mono ?_
                        rintro e w6 ⟨rfl, hp, hb⟩
                        go_wp2_with fail
                        go_ret
                        exact RNumPost.no HO.out hk ⟨rfl, hp, But.trans (by have := H2.out.2; (repeat' (first | (with_reducible exact But.refl _ _) | (with_reducible assumption) | (with_reducible refine But.drewN ?_ _) | (with_reducible refine But.drew ?_) | (with_reducible refine But.alloc ?_ _) | (with_reducible refine But.setOwn ?_ _ _)))) hb⟩
                      · have g3b : (D == 69) = false := beq_eq_false_iff_ne.2 g3
                        have HO : Hid (rnumS s i = some (X, k)) := rnum_ok HS.out (by unfold dotB; exact decide_eq_false (by have := HDB.out; omega))
                        go_wp2_with fail
                        go_quiet (fail)
                        go_wp2_with fail
                        go_quiet (fail)
                        go_wp2_with fail
                        go_ret
                        exact RNumPost.yes HO.out ⟨rfl, by exact H2.out.1, (by have := H2.out.2; (repeat' (first | (with_reducible exact But.refl _ _) | (with_reducible assumption) | (with_reducible refine But.drewN ?_ _) | (with_reducible refine But.drew ?_) | (with_reducible refine But.alloc ?_ _) | (with_reducible refine But.setOwn ?_ _ _))))⟩
                | false =>
                  have HM45 : Hid (bt s i ≠ 45) := by have h := HM.out; exact of_decide_eq_false h.symm
                  by_cases ex : X = -9223372036854775808
                  · have HE : Hid (numS s i = none) := by
                      show _ = _
                      rw [HV.out]
                      split
                      · rfl
                      · rw [if_neg HM45.out, if_neg (by have := HXx.out; omega)]
                    have exb : (X == -9223372036854775808) = true := beq_iff_eq.2 ex
                    clear ex
                    go_wp2_with fail
                    go_quiet (fail)
                    go_wp2_with fail
                    refine (rfail_first g s k 300 _ (H2.out.1.drewN _)).mono ?_
                    rintro e w6 ⟨rfl, hp, hb⟩
                    go_wp2_with fail
                    go_ret
                    exact RNumPost.no (rnum_none HE.out) hk ⟨rfl, hp, But.trans (by have := H2.out.2; (repeat' (first | (with_reducible exact But.refl _ _) | (with_reducible assumption) | (with_reducible refine But.drewN ?_ _) | (with_reducible refine But.drew ?_) | (with_reducible refine But.alloc ?_ _) | (with_reducible refine But.setOwn ?_ _ _)))) hb⟩
                  · have exb : (X == -9223372036854775808) = false := beq_eq_false_iff_ne.2 ex
                    have HS : Hid (numS s i = some (-X, k)) := by
                      show _ = _
                      have e : -X = (x : Int) := by have := HXx.out; omega
                      rw [HV.out, if_neg, if_neg HM45.out, if_pos (by have := HXx.out; omega), e]
                      have h1 := HXx.out
                      have h2 := HEAB.out
                      have h3 := HM45.out
                      omega
                    have hX3 : -9223372036854775807 ≤ X := by omega
                    have eW : IntKind.i64.wrap (-X) = -X := IntWalk.i64_in _ ⟨by omega, by omega⟩
                    clear ex
                    have g1b : (D == 46) = false := beq_eq_false_iff_ne.2 (by omega)
                    by_cases g2 : D = 101
                    · have g2b : (D == 101) = true := beq_iff_eq.2 g2
                      have HO : Hid (rnumS s i = none) := rnum_dot HS.out (by unfold dotB; exact decide_eq_true (by have := HDB.out; omega))
                      go_wp2_with fail
                      go_quiet (fail)
                      go_wp2_with fail
                      go_quiet (fail)
                      go_wp2_with fail
                      refine (rfail_first g s k 300 _ (H2.out.1.drewN _)).mono ?_
                      rintro e w6 ⟨rfl, hp, hb⟩
                      go_wp2_with fail
                      go_ret
                      exact RNumPost.no HO.out hk ⟨rfl, hp, But.trans (by have := H2.out.2; (repeat' (first | (with_reducible exact But.refl _ _) | (with_reducible assumption) | (with_reducible refine But.drewN ?_ _) | (with_reducible refine But.drew ?_) | (with_reducible refine But.alloc ?_ _) | (with_reducible refine But.setOwn ?_ _ _)))) hb⟩
                    · have g2b : (D == 101) = false := beq_eq_false_iff_ne.2 g2
                      by_cases g3 : D = 69
                      · have g3b : (D == 69) = true := beq_iff_eq.2 g3
                        have HO : Hid (rnumS s i = none) := rnum_dot HS.out (by unfold dotB; exact decide_eq_true (by have := HDB.out; omega))
                        go_wp2_with fail
                        go_quiet (fail)
                        go_wp2_with fail
                        go_quiet (fail)
                        go_wp2_with fail
                        refine (rfail_first g s k 300 _ (H2.out.1.drewN _)).mono ?_
                        rintro e w6 ⟨rfl, hp, hb⟩
                        go_wp2_with fail
                        go_ret
                        exact RNumPost.no HO.out hk ⟨rfl, hp, But.trans (by have := H2.out.2; (repeat' (first | (with_reducible exact But.refl _ _) | (with_reducible assumption) | (with_reducible refine But.drewN ?_ _) | (with_reducible refine But.drew ?_) | (with_reducible refine But.alloc ?_ _) | (with_reducible refine But.setOwn ?_ _ _)))) hb⟩
                      · have g3b : (D == 69) = false := beq_eq_false_iff_ne.2 g3
                        have HO : Hid (rnumS s i = some (-X, k)) := rnum_ok HS.out (by unfold dotB; exact decide_eq_false (by have := HDB.out; omega))
                        go_wp2_with fail
                        go_quiet (fail)
                        go_wp2_with fail
                        go_quiet (fail)
                        go_wp2_with fail
                        go_ret
                        exact RNumPost.yes HO.out ⟨rfl, by exact H2.out.1, (by have := H2.out.2; (repeat' (first | (with_reducible exact But.refl _ _) | (with_reducible assumption) | (with_reducible refine But.drewN ?_ _) | (with_reducible refine But.drew ?_) | (with_reducible refine But.alloc ?_ _) | (with_reducible refine But.setOwn ?_ _ _))))⟩
            · have HEAB : Hid (¬ k = f ∧ ¬ (f + 1 < k ∧ bt s f = 48)) := ⟨ea, fun h => eb h.1⟩
              cases m with
              | true =>
                have HM45 : Hid (bt s i = 45) := by have h := HM.out; show _ = _; exact of_decide_eq_true h.symm
                by_cases ex : X = 0
                · have HE : Hid (numS s i = none) := by show _ = _; rw [HV.out, if_pos (.inr (.inr ⟨HM45.out, by have := HXx.out; omega⟩))]
                  have exb : (X == 0) = true := beq_iff_eq.2 ex
                  clear ex
                  go_wp2_with fail
                  go_quiet (fail)
                  go_wp2_with fail
                  refine (rfail_first g s k 300 _ (H2.out.1.drewN _)).mono ?_
                  rintro e w6 ⟨rfl, hp, hb⟩
                  go_wp2_with fail
                  go_ret
                  exact RNumPost.no (rnum_none HE.out) hk ⟨rfl, hp, But.trans (by have := H2.out.2; (repeat' (first | (with_reducible exact But.refl _ _) | (with_reducible assumption) | (with_reducible refine But.drewN ?_ _) | (with_reducible refine But.drew ?_) | (with_reducible refine But.alloc ?_ _) | (with_reducible refine But.setOwn ?_ _ _)))) hb⟩
                · have exb : (X == 0) = false := beq_eq_false_iff_ne.2 ex
                  have HS : Hid (numS s i = some (X, k)) := by
                    show _ = _
                    rw [HV.out, if_neg, if_pos HM45.out, if_pos (by have := HXx.out; omega), HXx.out]
                    have h1 := HXx.out
                    have h2 := HEAB.out
                    omega
                  clear ex
                  have g1b : (D == 46) = false := beq_eq_false_iff_ne.2 (by omega)
                  by_cases g2 : D = 101
                  · have g2b : (D == 101) = true := beq_iff_eq.2 g2
                    have HO : Hid (rnumS s i = none) := rnum_dot HS.out (by unfold dotB; exact decide_eq_true (by have := HDB.out; omega))
                    go_wp2_with fail
                    go_quiet (fail)
                    go_wp2_with fail
                    go_quiet (fail)
                    go_wp2_with fail
                    refine (rfail_first g s k 300 _ (H2.out.1.drewN _)).mono ?_
                    rintro e w6 ⟨rfl, hp, hb⟩
                    go_wp2_with fail
                    go_ret
                    exact RNumPost.no HO.out hk ⟨rfl, hp, But.trans (by have := H2.out.2; (repeat' (first | (with_reducible exact But.refl _ _) | (with_reducible assumption) | (with_reducible refine But.drewN ?_ _) | (with_reducible refine But.drew ?_) | (with_reducible refine But.alloc ?_ _) | (with_reducible refine But.setOwn ?_ _ _)))) hb⟩
                  · have g2b : (D == 101) = false := beq_eq_false_iff_ne.2 g2
                    by_cases g3 : D = 69
                    · have g3b : (D == 69) = true := beq_iff_eq.2 g3
                      have HO : Hid (rnumS s i = none) := rnum_dot HS.out (by unfold dotB; exact decide_eq_true (by have := HDB.out; omega))
                      go_wp2_with fail
                      go_quiet (fail)
                      go_wp2_with fail
                      go_quiet (fail)
                      go_wp2_with fail
                      refine (rfail_first g s k 300 _ (H2.out.1.drewN _)).mono ?_
                      rintro e w6 ⟨rfl, hp, hb⟩
                      go_wp2_with fail
                      go_ret
                      exact RNumPost.no HO.out hk ⟨rfl, hp, But.trans (by have := H2.out.2; (repeat' (first | (with_reducible exact But.refl _ _) | (with_reducible assumption) | (with_reducible refine But.drewN ?_ _) | (with_reducible refine But.drew ?_) | (with_reducible refine But.alloc ?_ _) | (with_reducible refine But.setOwn ?_ _ _)))) hb⟩
                    · have g3b : (D == 69) = false := beq_eq_false_iff_ne.2 g3
                      have HO : Hid (rnumS s i = some (X, k)) := rnum_ok HS.out (by unfold dotB; exact decide_eq_false (by have := HDB.out; omega))
                      go_wp2_with fail
                      go_quiet (fail)
                      go_wp2_with fail
                      go_quiet (fail)
                      go_wp2_with fail
                      go_ret
                      exact RNumPost.yes HO.out ⟨rfl, by exact H2.out.1, (by have := H2.out.2; (repeat' (first | (with_reducible exact But.refl _ _) | (with_reducible assumption) | (with_reducible refine But.drewN ?_ _) | (with_reducible refine But.drew ?_) | (with_reducible refine But.alloc ?_ _) | (with_reducible refine But.setOwn ?_ _ _))))⟩
              | false =>
                have HM45 : Hid (bt s i ≠ 45) := by have h := HM.out; exact of_decide_eq_false h.symm
                by_cases ex : X = -9223372036854775808
                · have HE : Hid (numS s i = none) := by
                    show _ = _
                    rw [HV.out]
                    split
                    · rfl
                    · rw [if_neg HM45.out, if_neg (by have := HXx.out; omega)]
                  have exb : (X == -9223372036854775808) = true := beq_iff_eq.2 ex
                  clear ex
                  go_wp2_with fail
                  go_quiet (fail)
                  go_wp2_with fail
                  refine (rfail_first g s k 300 _ (H2.out.1.drewN _)).mono ?_
                  rintro e w6 ⟨rfl, hp, hb⟩
                  go_wp2_with fail
                  go_ret
                  exact RNumPost.no (rnum_none HE.out) hk ⟨rfl, hp, But.trans (by have := H2.out.2; (repeat' (first | (with_reducible exact But.refl _ _) | (with_reducible assumption) | (with_reducible refine But.drewN ?_ _) | (with_reducible refine But.drew ?_) | (with_reducible refine But.alloc ?_ _) | (with_reducible refine But.setOwn ?_ _ _)))) hb⟩
                · have exb : (X == -9223372036854775808) = false := beq_eq_false_iff_ne.2 ex
                  have HS : Hid (numS s i = some (-X, k)) := by
                    show _ = _
                    have e : -X = (x : Int) := by have := HXx.out; omega
                    rw [HV.out, if_neg, if_neg HM45.out, if_pos (by have := HXx.out; omega), e]
                    have h1 := HXx.out
                    have h2 := HEAB.out
                    have h3 := HM45.out
                    omega
                  have hX3 : -9223372036854775807 ≤ X := by omega
                  have eW : IntKind.i64.wrap (-X) = -X := IntWalk.i64_in _ ⟨by omega, by omega⟩
                  clear ex
                  have g1b : (D == 46) = false := beq_eq_false_iff_ne.2 (by omega)
                  by_cases g2 : D = 101
                  · have g2b : (D == 101) = true := beq_iff_eq.2 g2
                    have HO : Hid (rnumS s i = none) := rnum_dot HS.out (by unfold dotB; exact decide_eq_true (by have := HDB.out; omega))
                    go_wp2_with fail
                    go_quiet (fail)
                    go_wp2_with fail
                    go_quiet (fail)
                    go_wp2_with fail
                    refine (rfail_first g s k 300 _ (H2.out.1.drewN _)).mono ?_
                    rintro e w6 ⟨rfl, hp, hb⟩
                    go_wp2_with fail
                    go_ret
                    exact RNumPost.no HO.out hk ⟨rfl, hp, But.trans (by have := H2.out.2; (repeat' (first | (with_reducible exact But.refl _ _) | (with_reducible assumption) | (with_reducible refine But.drewN ?_ _) | (with_reducible refine But.drew ?_) | (with_reducible refine But.alloc ?_ _) | (with_reducible refine But.setOwn ?_ _ _)))) hb⟩
                  · have g2b : (D == 101) = false := beq_eq_false_iff_ne.2 g2
                    by_cases g3 : D = 69
                    · have g3b : (D == 69) = true := beq_iff_eq.2 g3
                      have HO : Hid (rnumS s i = none) := rnum_dot HS.out (by unfold dotB; exact decide_eq_true (by have := HDB.out; omega))
                      go_wp2_with fail
                      go_quiet (fail)
                      go_wp2_with fail
                      go_quiet (fail)
                      go_wp2_with fail
                      refine (rfail_first g s k 300 _ (H2.out.1.drewN _)).mono ?_
                      rintro e w6 ⟨rfl, hp, hb⟩
                      go_wp2_with fail
                      go_ret
                      exact RNumPost.no HO.out hk ⟨rfl, hp, But.trans (by have := H2.out.2; (repeat' (first | (with_reducible exact But.refl _ _) | (with_reducible assumption) | (with_reducible refine But.drewN ?_ _) | (with_reducible refine But.drew ?_) | (with_reducible refine But.alloc ?_ _) | (with_reducible refine But.setOwn ?_ _ _)))) hb⟩
                    · have g3b : (D == 69) = false := beq_eq_false_iff_ne.2 g3
                      have HO : Hid (rnumS s i = some (-X, k)) := rnum_ok HS.out (by unfold dotB; exact decide_eq_false (by have := HDB.out; omega))
                      go_wp2_with fail
                      go_quiet (fail)
                      go_wp2_with fail
                      go_quiet (fail)
                      go_wp2_with fail
                      go_ret
                      exact RNumPost.yes HO.out ⟨rfl, by exact H2.out.1, (by have := H2.out.2; (repeat' (first | (with_reducible exact But.refl _ _) | (with_reducible assumption) | (with_reducible refine But.drewN ?_ _) | (with_reducible refine But.drew ?_) | (with_reducible refine But.alloc ?_ _) | (with_reducible refine But.setOwn ?_ _ _))))⟩
        case pos =>
          have HI : Hid (isDig (bt s k) = true) := by have := HDB.out; show _ = _; simp only [isDig, decide_eq_true_eq]; omega
          by_cases hov : X < -922337203685477580 ∨ (X = -922337203685477580 ∧ 8 < D - 48)
          · have HE : Hid (numS s i = none) := num_over2 HF.out HDS.out HI.out (by have h1 := HXx.out; have h2 := HDB.out; omega)
            rcases hov with hov | ⟨hov, hov2⟩
            · skip
              go_wp2_with fail
              go_quiet (fail)
              go_wp2_with fail
              go_quiet (fail)
              go_wp2_with fail
              refine (rfail_first g s k 300 _ (H2.out.1.drewN _)).mono ?_
              rintro e w6 ⟨rfl, hp, hb⟩
              go_wp2_with fail
              go_ret
              exact RNumPost.no (rnum_none HE.out) hk ⟨rfl, hp, But.trans (by have := H2.out.2; (repeat' (first | (with_reducible exact But.refl _ _) | (with_reducible assumption) | (with_reducible refine But.drewN ?_ _) | (with_reducible refine But.drew ?_) | (with_reducible refine But.alloc ?_ _) | (with_reducible refine But.setOwn ?_ _ _)))) hb⟩
            · have hov3 : (X == -922337203685477580) = true := beq_iff_eq.2 hov
              have hov4 : ¬ X < -922337203685477580 := by omega
              clear hov
              go_wp2_with fail
              go_quiet (fail)
              go_wp2_with fail
              go_quiet (fail)
              go_wp2_with fail
              refine (rfail_first g s k 300 _ (H2.out.1.drewN _)).mono ?_
              rintro e w6 ⟨rfl, hp, hb⟩
              go_wp2_with fail
              go_ret
              exact RNumPost.no (rnum_none HE.out) hk ⟨rfl, hp, But.trans (by have := H2.out.2; (repeat' (first | (with_reducible exact But.refl _ _) | (with_reducible assumption) | (with_reducible refine But.drewN ?_ _) | (with_reducible refine But.drew ?_) | (with_reducible refine But.alloc ?_ _) | (with_reducible refine But.setOwn ?_ _ _)))) hb⟩
          · have hov1 : ¬ X < -922337203685477580 := fun h => hov (.inl h)
            have hNew : Hid (10 * X - (D - 48) = -((10 * x + (bt s k - 48) : Nat) : Int) ∧ digS s f 0 = digS s (k + 1) (10 * x + (bt s k - 48))) := by
              have h1 := HXx.out; have h2 := HDB.out
              exact ⟨by omega, by rw [HDS.out, digS_step hkl HI.out]⟩
            have hR1 : -9223372036854775808 ≤ 10 * X - (D - 48) := by omega
            have hR2 : 10 * X - (D - 48) ≤ 0 := by omega
            have eW2 : IntKind.i64.wrap (10 * X) = 10 * X := IntWalk.i64_in _ ⟨by omega, by omega⟩
            have eW3 : IntKind.i64.wrap (10 * X - (D - 48)) = 10 * X - (D - 48) := IntWalk.i64_in _ ⟨by omega, by omega⟩
            by_cases he : X = -922337203685477580
            · have he1 : (X == -922337203685477580) = true := beq_iff_eq.2 he
              have he2 : ¬ 8 < D - 48 := fun h => hov (.inr ⟨he, h⟩)
              clear hov he
              go_wp2_with fail
              go_quiet (fail)
              go_wp2_with fail
              go_quiet (fail)
              go_wp2_with fail
              go_roundg (s.size - (k + 1))
              case measure => have := HN.out; omega
              case rel => exact ⟨k + 1, 10 * x + (bt s k - 48), 10 * X - (D - 48), rfl, hR2, hR1, by omega, by omega, rfl, hNew.out.1, ((H2.out.1.drewN _).set _ _ (by go_num)), (by have := H2.out.2; (repeat' (first | (with_reducible exact But.refl _ _) | (with_reducible assumption) | (with_reducible refine But.drewN ?_ _) | (with_reducible refine But.drew ?_) | (with_reducible refine But.alloc ?_ _) | (with_reducible refine But.setOwn ?_ _ _)))), hNew.out.2⟩
            · have he1 : (X == -922337203685477580) = false := beq_eq_false_iff_ne.2 he
              clear hov he
              go_wp2_with fail
              go_quiet (fail)
              go_wp2_with fail
              go_quiet (fail)
              go_wp2_with fail
              go_roundg (s.size - (k + 1))
              case measure => have := HN.out; omega
              case rel => exact ⟨k + 1, 10 * x + (bt s k - 48), 10 * X - (D - 48), rfl, hR2, hR1, by omega, by omega, rfl, hNew.out.1, ((H2.out.1.drewN _).set _ _ (by go_num)), (by have := H2.out.2; (repeat' (first | (with_reducible exact But.refl _ _) | (with_reducible assumption) | (with_reducible refine But.drewN ?_ _) | (with_reducible refine But.drew ?_) | (with_reducible refine But.alloc ?_ _) | (with_reducible refine But.setOwn ?_ _ _)))), hNew.out.2⟩

end Go.Proofs.YtbhnfehpbbibbaaDoor
