/- Package json's parser: number, for every text and place. Rows of bytes that a call makes: what they hold, and that they stay. For every world. -/
import Derived.Test.YtbhnfehpbbibbaaDoorM04
import Derived.Lib.AppendStr
import Derived.StillTailTactics

namespace Go.Proofs.YtbhnfehpbbibbaaDoor
open Go.RowKit

theorem digS_step {s : ByteArray} {i x : Nat} (hi : i < s.size) (h : isDig (bt s i) = true) : digS s i x = digS s (i + 1) (10 * x + (bt s i - 48)) := by
  unfold digS; rw [show s.size - i = (s.size - (i + 1)) + 1 from by omega, digF, if_pos h]
theorem digS_stop {s : ByteArray} {i x : Nat} (h : isDig (bt s i) = false) : digS s i x = (x, i) := by
  unfold digS
  by_cases hi : i < s.size
  · rw [show s.size - i = (s.size - (i + 1)) + 1 from by omega, digF, h]; rfl
  · rw [show s.size - i = 0 from by omega]; rfl
theorem digF_ge (s : ByteArray) : ∀ k i x, x ≤ (digF s k i x).1 ∧ i ≤ (digF s k i x).2
  | 0, i, x => ⟨Nat.le_refl _, Nat.le_refl _⟩
  | k + 1, i, x => by
    unfold digF; split
    · have := digF_ge s k (i + 1) (10 * x + (bt s i - 48)); omega
    · exact ⟨Nat.le_refl _, Nat.le_refl _⟩
theorem dig_in {s : ByteArray} {i : Nat} (h : isDig (bt s i) = true) : i < s.size := by
  by_cases hi : i < s.size
  · exact hi
  · rw [bt_out (by omega)] at h; exact absurd h (by decide)
theorem num_eq {s : ByteArray} {i f : Nat} (hf : f = if bt s i = 45 then i + 1 else i) {x k : Nat} (hd : digS s f 0 = (x, k)) : numS s i =
    if k = f ∨ (f + 1 < k ∧ bt s f = 48) ∨ (bt s i = 45 ∧ x = 0) then none
    else if bt s i = 45 then (if x ≤ 9223372036854775808 then some (-(x : Int), k) else none)
    else if x < 9223372036854775808 then some ((x : Int), k) else none := by
  unfold numS; simp only [← hf, hd]
/-- more than the greatest, with a digit more to come: no number -/
theorem num_over {s : ByteArray} {i f k x : Nat} (hf : f = if bt s i = 45 then i + 1 else i) (hd : digS s f 0 = digS s k x) (hx : 1152921504606846976 < x) (h : isDig (bt s k) = true) : numS s i = none := by
  have h1 := digS_step (x := x) (dig_in h) h
  have h2 := digF_ge s (s.size - (k + 1)) (k + 1) (10 * x + (bt s k - 48))
  have h3 : digS s f 0 = ((digS s f 0).1, (digS s f 0).2) := rfl
  rw [num_eq hf h3]
  have h4 : 9223372036854775808 < (digS s f 0).1 := by rw [hd, h1]; unfold digS; omega
  split
  · rfl
  · split
    · rw [if_neg (by omega)]
    · rw [if_neg (by omega)]
def NumPost (g : Nat) (s : ByteArray) (o : Option (Int × Nat)) (w : World) (e : Ending) (w' : World) : Prop :=
  match o with
  | none => Threw g 300 w e w'
  | some (n, j) => Took g s w (.int .i64 n) j e w'
theorem NumPost.no {g s o w e w'} (h : o = none) (t : Threw g 300 w e w') : NumPost g s o w e w' := by rw [h]; exact t
theorem NumPost.yes {g s o w e w' n j} (h : o = some (n, j)) (q : Took g s w (.int .i64 n) j e w') : NumPost g s o w e w' := by rw [h]; exact q
theorem NumPost.at_none {g s o w e w'} (q : NumPost g s o w e w') (h : o = none) : Threw g 300 w e w' := by rw [h] at q; exact q
theorem NumPost.at_some {g s o w e w' n j} (q : NumPost g s o w e w') (h : o = some (n, j)) : Took g s w (.int .i64 n) j e w' := by rw [h] at q; exact q

set_option maxRecDepth 100000 in
set_option maxHeartbeats 4000000 in
theorem number_any (g : Nat) (s : ByteArray) (i : Nat) (w : World) (hs : s.size ≤ 140737488351232) (hi : i ≤ s.size) (h : PS w g s i) :
    Calls Tryd.prog 30 #[.pointer (some ⟨g, 0, none⟩)] w (NumPost g s (numS s i) w) := by
  have HP := Lib.hid h
  clear h
  go_enter Tryd.func30, Tryd.ntmps30
  go_wp2_with fail
  refine (next_at g s i _ hs HP.out).mono ?_
  rintro e w1 ⟨C, rfl, HC, ⟨hC0, hC1⟩, hp, hb⟩
  have p0 := hp.c0
  have p1 := hp.c1
  have p2 := hp.f1
  by_cases hc : C = 45
  · subst hc
    have hin : i < s.size := by
      by_cases hx : i < s.size
      · exact hx
      · have := HC.out; rw [bt_out (by omega)] at this; omega
    have HF : Hid ((i + 1 : Nat) = if bt s i = 45 then i + 1 else i) := by show _ = _; rw [if_pos (by have := HC.out; omega)]
    have H1 : Hid (PS (w1.setCell ⟨g, 1, none⟩ (.int .i64 (i + 1))) g s (i + 1) ∧ But g w (w1.setCell ⟨g, 1, none⟩ (.int .i64 (i + 1)))) := ⟨hp.set _ _ (by go_num), hb.setOwn _ _⟩
    have HM : Hid (bt s i = 45) := by have := HC.out; show _ = _; omega
    clear hp hb
    go_wp2_with fail
    go_loopg [5] (s.size - (i + 1)) (fun n v wr => ∃ (k x : Nat) (X : Int), v = .int .u64 X ∧ 0 ≤ X ∧ X < 18446744073709551616 ∧ i + 1 ≤ k ∧ k ≤ s.size ∧ n = s.size - k ∧ Hid (X = x ∧ PS wr g s k ∧ But g w wr ∧ digS s (i + 1) 0 = digS s k x))
    case atStart => exact ⟨i + 1, 0, 0, rfl, by omega, by omega, by omega, by omega, rfl, rfl, H1.out.1, H1.out.2, rfl⟩
    case round =>
      obtain ⟨k, x, X, rfl, hX0, hX1, hfk, hk, hn, H⟩ := hrel
      have HN := Lib.hid hn
      clear hn
      go_wp2_with fail
      refine (next_at g s k _ hs H.out.2.1).mono ?_
      rintro e w2 ⟨D, rfl, HD, ⟨hD0, hD1⟩, hp2, hb2⟩
      have H2 : Hid (PS w2 g s k ∧ But g w w2) := ⟨hp2, H.out.2.2.1.trans hb2⟩
      clear hp2 hb2
      by_cases hdig : 48 ≤ D ∧ D ≤ 57
      · have HI : Hid (isDig (bt s k) = true) := by have := HD.out; show _ = _; simp only [isDig, decide_eq_true_eq]; omega
        have hkl := dig_in HI.out
        obtain ⟨d1, d2⟩ := hdig
        go_wp2_with fail
        refine (next_at g s k _ hs H2.out.1).mono ?_
        rintro e w3 ⟨D3, rfl, HD3, _, hp3, hb3⟩
        obtain rfl : D = D3 := by rw [HD.out, HD3.out]
        have H3 : Hid (PS w3 g s k ∧ But g w w3) := ⟨hp3, H2.out.2.trans hb3⟩
        clear hp3 hb3
        by_cases hbig : 1152921504606846976 < X
        · have HN := Lib.hid (num_over HF.out H.out.2.2.2 (by have := H.out.1; omega) HI.out)
          go_wp2_with fail
          refine (bad_any _).mono ?_
          rintro e w6 ⟨rfl, rfl⟩
          exact ⟨rfl, NumPost.no HN.out ⟨rfl, H3.out.2⟩⟩
        · go_wp2_with fail
          refine (next_at g s k _ hs H3.out.1).mono ?_
          rintro e w4 ⟨D4, rfl, HD4, _, hp4, hb4⟩
          obtain rfl : D = D4 := by rw [HD.out, HD4.out]
          have q0 := hp4.c0
          have q1 := hp4.c1
          have q2 := hp4.f1
          have H4 : Hid (PS (w4.setCell ⟨g, 1, none⟩ (.int .i64 (k + 1))) g s (k + 1) ∧ But g w (w4.setCell ⟨g, 1, none⟩ (.int .i64 (k + 1)))) := ⟨hp4.set _ _ (by go_num), (H3.out.2.trans hb4).setOwn _ _⟩
          clear hp4 hb4
          go_wp2_with fail
          have HX : Hid (10 * X + (D - 48) = ((10 * x + (bt s k - 48) : Nat) : Int) ∧ digS s (i + 1) 0 = digS s (k + 1) (10 * x + (bt s k - 48))) := by
            have e1 := H.out.1; have e2 := HD.out
            exact ⟨by omega, by rw [H.out.2.2.2, digS_step hkl HI.out]⟩
          go_roundg (s.size - (k + 1))
          case measure => have := HN.out; omega
          case rel => exact ⟨k + 1, 10 * x + (bt s k - 48), 10 * X + (D - 48), rfl, by omega, by omega, by omega, by omega, rfl, HX.out.1, H4.out.1, H4.out.2, HX.out.2⟩
      · have HI : Hid (isDig (bt s k) = false) := by have := HD.out; show _ = _; simp only [isDig, decide_eq_false_iff_not]; omega
        have HV := Lib.hid (num_eq HF.out (H.out.2.2.2.trans (digS_stop HI.out)))
        have HXx := Lib.hid H.out.1
        clear H
        have fin : Hid (∀ wz : World, PS wz g s k → But g w wz → True) := fun _ _ _ => trivial
        by_cases dlo : 48 ≤ D
        · have dhi : ¬ D ≤ 57 := fun h => hdig ⟨dlo, h⟩
          clear hdig
          go_wp2_with fail
          refine (next_at g s k _ hs H2.out.1).mono ?_
          rintro e w3 ⟨D3, rfl, HD3, _, hp3, hb3⟩
          obtain rfl : D = D3 := by rw [HD.out, HD3.out]
          have H3 : Hid (PS w3 g s k ∧ But g w w3) := ⟨hp3, H2.out.2.trans hb3⟩
          clear hp3 hb3
          have q0 := H3.out.1.c0
          have q1 := H3.out.1.c1
          by_cases ea : k = i + 1
          · have HE : Hid (numS s i = none) := by show _ = _; rw [HV.out, if_pos (.inl ea)]
            subst ea
            go_wp2_with fail
            refine (bad_any _).mono ?_
            rintro e w6 ⟨rfl, rfl⟩
            exact ⟨rfl, NumPost.no HE.out ⟨rfl, H3.out.2⟩⟩
          · have ea2 : ((k : Int) - ((i : Int) + 1) == 0) = false := beq_eq_false_iff_ne.2 (by omega)
            have hfl : i + 1 < s.size := by omega
            have HBF := Lib.hid (bt_at hfl)
            by_cases eb : i + 1 + 1 < k
            · by_cases ec : bt s (i + 1) = 48
              · have HE : Hid (numS s i = none) := by show _ = _; rw [HV.out, if_pos (.inr (.inl ⟨eb, ec⟩))]
                have ec2 : (((s[i + 1]'hfl).toNat : Int) == 48) = true := beq_iff_eq.2 (by rw [← HBF.out, ec]; rfl)
                clear ec
                go_wp2_with fail
                refine (bad_any _).mono ?_
                rintro e w6 ⟨rfl, rfl⟩
                exact ⟨rfl, NumPost.no HE.out ⟨rfl, H3.out.2⟩⟩
              · have ec2 : (((s[i + 1]'hfl).toNat : Int) == 48) = false := beq_eq_false_iff_ne.2 (by rw [← HBF.out]; omega)
                have HEC := Lib.hid ec
                clear ec
                by_cases ex : X = 0
                · have HE : Hid (numS s i = none) := by show _ = _; rw [HV.out, if_pos (.inr (.inr ⟨HM.out, by have := HXx.out; omega⟩))]
                  subst ex
                  go_wp2_with fail
                  refine (bad_any _).mono ?_
                  rintro e w6 ⟨rfl, rfl⟩
                  exact ⟨rfl, NumPost.no HE.out ⟨rfl, H3.out.2⟩⟩
                · have ex2 : (X == 0) = false := beq_eq_false_iff_ne.2 ex
                  have HV2 : Hid (numS s i = if x ≤ 9223372036854775808 then some (-(x : Int), k) else none) := by
                    show _ = _
                    rw [HV.out, if_neg, if_pos HM.out]
                    rintro (h | ⟨h1, h2⟩ | ⟨_, h⟩)
                    · exact absurd h ea
                    · exact HEC.out h2
                    · have := HXx.out; omega
                  clear ex
                  by_cases ey : X ≤ 9223372036854775808
                  · have HE : Hid (numS s i = some (-X, k)) := by show _ = _; rw [HV2.out, if_pos (by have := HXx.out; omega), HXx.out]
                    go_wp2_with fail
                    go_ret
                    refine NumPost.yes HE.out ⟨?_, H3.out.1, H3.out.2⟩
                    show Ending.returned (.int .i64 _) = _
                    refine congrArg (fun z => Ending.returned (.int .i64 z)) ?_
                    rw [IntKind.wrap_u64]; unfold wrap64; omega
                  · have HE : Hid (numS s i = none) := by show _ = _; rw [HV2.out, if_neg (by have := HXx.out; omega)]
                    have ey2 : ¬ X < 9223372036854775808 := by omega
                    go_wp2_with fail
                    refine (bad_any _).mono ?_
                    rintro e w6 ⟨rfl, rfl⟩
                    exact ⟨rfl, NumPost.no HE.out ⟨rfl, H3.out.2⟩⟩
            · by_cases ex : X = 0
              · have HE : Hid (numS s i = none) := by show _ = _; rw [HV.out, if_pos (.inr (.inr ⟨HM.out, by have := HXx.out; omega⟩))]
                subst ex
                go_wp2_with fail
                refine (bad_any _).mono ?_
                rintro e w6 ⟨rfl, rfl⟩
                exact ⟨rfl, NumPost.no HE.out ⟨rfl, H3.out.2⟩⟩
              · have ex2 : (X == 0) = false := beq_eq_false_iff_ne.2 ex
                have HV2 : Hid (numS s i = if x ≤ 9223372036854775808 then some (-(x : Int), k) else none) := by
                  show _ = _
                  rw [HV.out, if_neg, if_pos HM.out]
                  rintro (h | ⟨h1, h2⟩ | ⟨_, h⟩)
                  · exact absurd h ea
                  · exact eb h1
                  · have := HXx.out; omega
                clear ex
                by_cases ey : X ≤ 9223372036854775808
                · have HE : Hid (numS s i = some (-X, k)) := by show _ = _; rw [HV2.out, if_pos (by have := HXx.out; omega), HXx.out]
                  go_wp2_with fail
                  go_ret
                  refine NumPost.yes HE.out ⟨?_, H3.out.1, H3.out.2⟩
                  show Ending.returned (.int .i64 _) = _
                  refine congrArg (fun z => Ending.returned (.int .i64 z)) ?_
                  rw [IntKind.wrap_u64]; unfold wrap64; omega
                · have HE : Hid (numS s i = none) := by show _ = _; rw [HV2.out, if_neg (by have := HXx.out; omega)]
                  have ey2 : ¬ X < 9223372036854775808 := by omega
                  go_wp2_with fail
                  refine (bad_any _).mono ?_
                  rintro e w6 ⟨rfl, rfl⟩
                  exact ⟨rfl, NumPost.no HE.out ⟨rfl, H3.out.2⟩⟩
        · clear hdig
          have H3 := H2
          have q0 := H3.out.1.c0
          have q1 := H3.out.1.c1
          by_cases ea : k = i + 1
          · have HE : Hid (numS s i = none) := by show _ = _; rw [HV.out, if_pos (.inl ea)]
            subst ea
            go_wp2_with fail
            refine (bad_any _).mono ?_
            rintro e w6 ⟨rfl, rfl⟩
            exact ⟨rfl, NumPost.no HE.out ⟨rfl, H3.out.2⟩⟩
          · have ea2 : ((k : Int) - ((i : Int) + 1) == 0) = false := beq_eq_false_iff_ne.2 (by omega)
            have hfl : i + 1 < s.size := by omega
            have HBF := Lib.hid (bt_at hfl)
            by_cases eb : i + 1 + 1 < k
            · by_cases ec : bt s (i + 1) = 48
              · have HE : Hid (numS s i = none) := by show _ = _; rw [HV.out, if_pos (.inr (.inl ⟨eb, ec⟩))]
                have ec2 : (((s[i + 1]'hfl).toNat : Int) == 48) = true := beq_iff_eq.2 (by rw [← HBF.out, ec]; rfl)
                clear ec
                go_wp2_with fail
                refine (bad_any _).mono ?_
                rintro e w6 ⟨rfl, rfl⟩
                exact ⟨rfl, NumPost.no HE.out ⟨rfl, H3.out.2⟩⟩
              · have ec2 : (((s[i + 1]'hfl).toNat : Int) == 48) = false := beq_eq_false_iff_ne.2 (by rw [← HBF.out]; omega)
                have HEC := Lib.hid ec
                clear ec
                by_cases ex : X = 0
                · have HE : Hid (numS s i = none) := by show _ = _; rw [HV.out, if_pos (.inr (.inr ⟨HM.out, by have := HXx.out; omega⟩))]
                  subst ex
                  go_wp2_with fail
                  refine (bad_any _).mono ?_
                  rintro e w6 ⟨rfl, rfl⟩
                  exact ⟨rfl, NumPost.no HE.out ⟨rfl, H3.out.2⟩⟩
                · have ex2 : (X == 0) = false := beq_eq_false_iff_ne.2 ex
                  have HV2 : Hid (numS s i = if x ≤ 9223372036854775808 then some (-(x : Int), k) else none) := by
                    show _ = _
                    rw [HV.out, if_neg, if_pos HM.out]
                    rintro (h | ⟨h1, h2⟩ | ⟨_, h⟩)
                    · exact absurd h ea
                    · exact HEC.out h2
                    · have := HXx.out; omega
                  clear ex
                  by_cases ey : X ≤ 9223372036854775808
                  · have HE : Hid (numS s i = some (-X, k)) := by show _ = _; rw [HV2.out, if_pos (by have := HXx.out; omega), HXx.out]
                    go_wp2_with fail
                    go_ret
                    refine NumPost.yes HE.out ⟨?_, H3.out.1, H3.out.2⟩
                    show Ending.returned (.int .i64 _) = _
                    refine congrArg (fun z => Ending.returned (.int .i64 z)) ?_
                    rw [IntKind.wrap_u64]; unfold wrap64; omega
                  · have HE : Hid (numS s i = none) := by show _ = _; rw [HV2.out, if_neg (by have := HXx.out; omega)]
                    have ey2 : ¬ X < 9223372036854775808 := by omega
                    go_wp2_with fail
                    refine (bad_any _).mono ?_
                    rintro e w6 ⟨rfl, rfl⟩
                    exact ⟨rfl, NumPost.no HE.out ⟨rfl, H3.out.2⟩⟩
            · by_cases ex : X = 0
              · have HE : Hid (numS s i = none) := by show _ = _; rw [HV.out, if_pos (.inr (.inr ⟨HM.out, by have := HXx.out; omega⟩))]
                subst ex
                go_wp2_with fail
                refine (bad_any _).mono ?_
                rintro e w6 ⟨rfl, rfl⟩
                exact ⟨rfl, NumPost.no HE.out ⟨rfl, H3.out.2⟩⟩
              · have ex2 : (X == 0) = false := beq_eq_false_iff_ne.2 ex
                have HV2 : Hid (numS s i = if x ≤ 9223372036854775808 then some (-(x : Int), k) else none) := by
                  show _ = _
                  rw [HV.out, if_neg, if_pos HM.out]
                  rintro (h | ⟨h1, h2⟩ | ⟨_, h⟩)
                  · exact absurd h ea
                  · exact eb h1
                  · have := HXx.out; omega
                clear ex
                by_cases ey : X ≤ 9223372036854775808
                · have HE : Hid (numS s i = some (-X, k)) := by show _ = _; rw [HV2.out, if_pos (by have := HXx.out; omega), HXx.out]
                  go_wp2_with fail
                  go_ret
                  refine NumPost.yes HE.out ⟨?_, H3.out.1, H3.out.2⟩
                  show Ending.returned (.int .i64 _) = _
                  refine congrArg (fun z => Ending.returned (.int .i64 z)) ?_
                  rw [IntKind.wrap_u64]; unfold wrap64; omega
                · have HE : Hid (numS s i = none) := by show _ = _; rw [HV2.out, if_neg (by have := HXx.out; omega)]
                  have ey2 : ¬ X < 9223372036854775808 := by omega
                  go_wp2_with fail
                  refine (bad_any _).mono ?_
                  rintro e w6 ⟨rfl, rfl⟩
                  exact ⟨rfl, NumPost.no HE.out ⟨rfl, H3.out.2⟩⟩
  · have hc2 : (C == 45) = false := beq_eq_false_iff_ne.2 hc
    have HF : Hid (i = if bt s i = 45 then i + 1 else i) := by show _ = _; rw [if_neg (by have := HC.out; omega)]
    have H1 : Hid (PS w1 g s i ∧ But g w w1) := ⟨hp, hb⟩
    have HM : Hid (¬ bt s i = 45) := by have := HC.out; show ¬ _; omega
    clear hc
    clear hp hb
    go_wp2_with fail
    go_loopg [5] (s.size - (i)) (fun n v wr => ∃ (k x : Nat) (X : Int), v = .int .u64 X ∧ 0 ≤ X ∧ X < 18446744073709551616 ∧ i ≤ k ∧ k ≤ s.size ∧ n = s.size - k ∧ Hid (X = x ∧ PS wr g s k ∧ But g w wr ∧ digS s (i) 0 = digS s k x))
    case atStart => exact ⟨i, 0, 0, rfl, by omega, by omega, by omega, by omega, rfl, rfl, H1.out.1, H1.out.2, rfl⟩
    case round =>
      obtain ⟨k, x, X, rfl, hX0, hX1, hfk, hk, hn, H⟩ := hrel
      have HN := Lib.hid hn
      clear hn
      go_wp2_with fail
      refine (next_at g s k _ hs H.out.2.1).mono ?_
      rintro e w2 ⟨D, rfl, HD, ⟨hD0, hD1⟩, hp2, hb2⟩
      have H2 : Hid (PS w2 g s k ∧ But g w w2) := ⟨hp2, H.out.2.2.1.trans hb2⟩
      clear hp2 hb2
      by_cases hdig : 48 ≤ D ∧ D ≤ 57
      · have HI : Hid (isDig (bt s k) = true) := by have := HD.out; show _ = _; simp only [isDig, decide_eq_true_eq]; omega
        have hkl := dig_in HI.out
        obtain ⟨d1, d2⟩ := hdig
        go_wp2_with fail
        refine (next_at g s k _ hs H2.out.1).mono ?_
        rintro e w3 ⟨D3, rfl, HD3, _, hp3, hb3⟩
        obtain rfl : D = D3 := by rw [HD.out, HD3.out]
        have H3 : Hid (PS w3 g s k ∧ But g w w3) := ⟨hp3, H2.out.2.trans hb3⟩
        clear hp3 hb3
        by_cases hbig : 1152921504606846976 < X
        · have HN := Lib.hid (num_over HF.out H.out.2.2.2 (by have := H.out.1; omega) HI.out)
          go_wp2_with fail
          refine (bad_any _).mono ?_
          rintro e w6 ⟨rfl, rfl⟩
          exact ⟨rfl, NumPost.no HN.out ⟨rfl, H3.out.2⟩⟩
        · go_wp2_with fail
          refine (next_at g s k _ hs H3.out.1).mono ?_
          rintro e w4 ⟨D4, rfl, HD4, _, hp4, hb4⟩
          obtain rfl : D = D4 := by rw [HD.out, HD4.out]
          have q0 := hp4.c0
          have q1 := hp4.c1
          have q2 := hp4.f1
          have H4 : Hid (PS (w4.setCell ⟨g, 1, none⟩ (.int .i64 (k + 1))) g s (k + 1) ∧ But g w (w4.setCell ⟨g, 1, none⟩ (.int .i64 (k + 1)))) := ⟨hp4.set _ _ (by go_num), (H3.out.2.trans hb4).setOwn _ _⟩
          clear hp4 hb4
          go_wp2_with fail
          have HX : Hid (10 * X + (D - 48) = ((10 * x + (bt s k - 48) : Nat) : Int) ∧ digS s (i) 0 = digS s (k + 1) (10 * x + (bt s k - 48))) := by
            have e1 := H.out.1; have e2 := HD.out
            exact ⟨by omega, by rw [H.out.2.2.2, digS_step hkl HI.out]⟩
          go_roundg (s.size - (k + 1))
          case measure => have := HN.out; omega
          case rel => exact ⟨k + 1, 10 * x + (bt s k - 48), 10 * X + (D - 48), rfl, by omega, by omega, by omega, by omega, rfl, HX.out.1, H4.out.1, H4.out.2, HX.out.2⟩
      · have HI : Hid (isDig (bt s k) = false) := by have := HD.out; show _ = _; simp only [isDig, decide_eq_false_iff_not]; omega
        have HV := Lib.hid (num_eq HF.out (H.out.2.2.2.trans (digS_stop HI.out)))
        have HXx := Lib.hid H.out.1
        clear H
        have fin : Hid (∀ wz : World, PS wz g s k → But g w wz → True) := fun _ _ _ => trivial
        by_cases dlo : 48 ≤ D
        · have dhi : ¬ D ≤ 57 := fun h => hdig ⟨dlo, h⟩
          clear hdig
          go_wp2_with fail
          refine (next_at g s k _ hs H2.out.1).mono ?_
          rintro e w3 ⟨D3, rfl, HD3, _, hp3, hb3⟩
          obtain rfl : D = D3 := by rw [HD.out, HD3.out]
          have H3 : Hid (PS w3 g s k ∧ But g w w3) := ⟨hp3, H2.out.2.trans hb3⟩
          clear hp3 hb3
          have q0 := H3.out.1.c0
          have q1 := H3.out.1.c1
          by_cases ea : k = i
          · have HE : Hid (numS s i = none) := by show _ = _; rw [HV.out, if_pos (.inl ea)]
            subst ea
            go_wp2_with fail
            refine (bad_any _).mono ?_
            rintro e w6 ⟨rfl, rfl⟩
            exact ⟨rfl, NumPost.no HE.out ⟨rfl, H3.out.2⟩⟩
          · have ea2 : ((k : Int) - (i : Int) == 0) = false := beq_eq_false_iff_ne.2 (by omega)
            have hfl : i < s.size := by omega
            have HBF := Lib.hid (bt_at hfl)
            by_cases eb : i + 1 < k
            · by_cases ec : bt s (i) = 48
              · have HE : Hid (numS s i = none) := by show _ = _; rw [HV.out, if_pos (.inr (.inl ⟨eb, ec⟩))]
                have ec2 : (((s[i]'hfl).toNat : Int) == 48) = true := beq_iff_eq.2 (by rw [← HBF.out, ec]; rfl)
                clear ec
                go_wp2_with fail
                refine (bad_any _).mono ?_
                rintro e w6 ⟨rfl, rfl⟩
                exact ⟨rfl, NumPost.no HE.out ⟨rfl, H3.out.2⟩⟩
              · have ec2 : (((s[i]'hfl).toNat : Int) == 48) = false := beq_eq_false_iff_ne.2 (by rw [← HBF.out]; omega)
                have HEC := Lib.hid ec
                clear ec
                have HV2 : Hid (numS s i = if x < 9223372036854775808 then some ((x : Int), k) else none) := by
                  show _ = _
                  rw [HV.out, if_neg, if_neg HM.out]
                  rintro (h | ⟨h1, h2⟩ | ⟨h, _⟩)
                  · exact absurd h ea
                  · exact HEC.out h2
                  · exact HM.out h
                by_cases ey : X < 9223372036854775808
                · have HE : Hid (numS s i = some (X, k)) := by show _ = _; rw [HV2.out, if_pos (by have := HXx.out; omega), HXx.out]
                  go_wp2_with fail
                  go_ret
                  refine NumPost.yes HE.out ⟨?_, H3.out.1, H3.out.2⟩
                  show Ending.returned (.int .i64 _) = _
                  refine congrArg (fun z => Ending.returned (.int .i64 z)) ?_
                  rfl
                · have HE : Hid (numS s i = none) := by show _ = _; rw [HV2.out, if_neg (by have := HXx.out; omega)]
                  go_wp2_with fail
                  refine (bad_any _).mono ?_
                  rintro e w6 ⟨rfl, rfl⟩
                  exact ⟨rfl, NumPost.no HE.out ⟨rfl, H3.out.2⟩⟩
            · have HV2 : Hid (numS s i = if x < 9223372036854775808 then some ((x : Int), k) else none) := by
                show _ = _
                rw [HV.out, if_neg, if_neg HM.out]
                rintro (h | ⟨h1, h2⟩ | ⟨h, _⟩)
                · exact absurd h ea
                · exact eb h1
                · exact HM.out h
              by_cases ey : X < 9223372036854775808
              · have HE : Hid (numS s i = some (X, k)) := by show _ = _; rw [HV2.out, if_pos (by have := HXx.out; omega), HXx.out]
                go_wp2_with fail
                go_ret
                refine NumPost.yes HE.out ⟨?_, H3.out.1, H3.out.2⟩
                show Ending.returned (.int .i64 _) = _
                refine congrArg (fun z => Ending.returned (.int .i64 z)) ?_
                rfl
              · have HE : Hid (numS s i = none) := by show _ = _; rw [HV2.out, if_neg (by have := HXx.out; omega)]
                go_wp2_with fail
                refine (bad_any _).mono ?_
                rintro e w6 ⟨rfl, rfl⟩
                exact ⟨rfl, NumPost.no HE.out ⟨rfl, H3.out.2⟩⟩
        · clear hdig
          have H3 := H2
          have q0 := H3.out.1.c0
          have q1 := H3.out.1.c1
          by_cases ea : k = i
          · have HE : Hid (numS s i = none) := by show _ = _; rw [HV.out, if_pos (.inl ea)]
            subst ea
            go_wp2_with fail
            refine (bad_any _).mono ?_
            rintro e w6 ⟨rfl, rfl⟩
            exact ⟨rfl, NumPost.no HE.out ⟨rfl, H3.out.2⟩⟩
          · have ea2 : ((k : Int) - (i : Int) == 0) = false := beq_eq_false_iff_ne.2 (by omega)
            have hfl : i < s.size := by omega
            have HBF := Lib.hid (bt_at hfl)
            by_cases eb : i + 1 < k
            · by_cases ec : bt s (i) = 48
              · have HE : Hid (numS s i = none) := by show _ = _; rw [HV.out, if_pos (.inr (.inl ⟨eb, ec⟩))]
                have ec2 : (((s[i]'hfl).toNat : Int) == 48) = true := beq_iff_eq.2 (by rw [← HBF.out, ec]; rfl)
                clear ec
                go_wp2_with fail
                refine (bad_any _).mono ?_
                rintro e w6 ⟨rfl, rfl⟩
                exact ⟨rfl, NumPost.no HE.out ⟨rfl, H3.out.2⟩⟩
              · have ec2 : (((s[i]'hfl).toNat : Int) == 48) = false := beq_eq_false_iff_ne.2 (by rw [← HBF.out]; omega)
                have HEC := Lib.hid ec
                clear ec
                have HV2 : Hid (numS s i = if x < 9223372036854775808 then some ((x : Int), k) else none) := by
                  show _ = _
                  rw [HV.out, if_neg, if_neg HM.out]
                  rintro (h | ⟨h1, h2⟩ | ⟨h, _⟩)
                  · exact absurd h ea
                  · exact HEC.out h2
                  · exact HM.out h
                by_cases ey : X < 9223372036854775808
                · have HE : Hid (numS s i = some (X, k)) := by show _ = _; rw [HV2.out, if_pos (by have := HXx.out; omega), HXx.out]
                  go_wp2_with fail
                  go_ret
                  refine NumPost.yes HE.out ⟨?_, H3.out.1, H3.out.2⟩
                  show Ending.returned (.int .i64 _) = _
                  refine congrArg (fun z => Ending.returned (.int .i64 z)) ?_
                  rfl
                · have HE : Hid (numS s i = none) := by show _ = _; rw [HV2.out, if_neg (by have := HXx.out; omega)]
                  go_wp2_with fail
                  refine (bad_any _).mono ?_
                  rintro e w6 ⟨rfl, rfl⟩
                  exact ⟨rfl, NumPost.no HE.out ⟨rfl, H3.out.2⟩⟩
            · have HV2 : Hid (numS s i = if x < 9223372036854775808 then some ((x : Int), k) else none) := by
                show _ = _
                rw [HV.out, if_neg, if_neg HM.out]
                rintro (h | ⟨h1, h2⟩ | ⟨h, _⟩)
                · exact absurd h ea
                · exact eb h1
                · exact HM.out h
              by_cases ey : X < 9223372036854775808
              · have HE : Hid (numS s i = some (X, k)) := by show _ = _; rw [HV2.out, if_pos (by have := HXx.out; omega), HXx.out]
                go_wp2_with fail
                go_ret
                refine NumPost.yes HE.out ⟨?_, H3.out.1, H3.out.2⟩
                show Ending.returned (.int .i64 _) = _
                refine congrArg (fun z => Ending.returned (.int .i64 z)) ?_
                rfl
              · have HE : Hid (numS s i = none) := by show _ = _; rw [HV2.out, if_neg (by have := HXx.out; omega)]
                go_wp2_with fail
                refine (bad_any _).mono ?_
                rintro e w6 ⟨rfl, rfl⟩
                exact ⟨rfl, NumPost.no HE.out ⟨rfl, H3.out.2⟩⟩

end Go.Proofs.YtbhnfehpbbibbaaDoor

namespace Go.Proofs.YtbhnfehpbbibbaaDoor
open Go.RowKit

/-- v is a slice of bytes that the call owns from block base on: it holds acc -/
def BRow (w : World) (base : Nat) (v : Value) (acc : List UInt8) : Prop := w.ownsRow base 5 1 v acc.length (acc.map fun b => Value.int .u8 b.toNat)
theorem BRow.nil (w : World) (base : Nat) : BRow w base (.slice none 0 0) [] := World.ownsRow_nil w base _ _
theorem BRow.lt {w base v acc} (h : BRow w base v acc) : ∀ k, v.ownBlock = some k → base ≤ k ∧ k < w.heap.size := World.ownsRow.lt h
theorem BRow.kept {w w' : World} {base v acc} {row : Option Nat} (h : BRow w base v acc) (hg : w.grownBy w' row) (hne : v.ownBlock = none ∨ v.ownBlock ≠ row) : BRow w' base v acc := World.ownsRow.kept h hg hne
theorem But.grownBy {g : Nat} {w w' : World} (h : But g w w') : w.grownBy w' (some g) := ⟨h.os, h.tape, h.output, h.size, fun k hk hne => h.block k hk (fun e => hne (by rw [e]))⟩
theorem BRow.but {g : Nat} {w w' : World} {base v acc} (h : BRow w base v acc) (hb : But g w w') (hg : g < base) : BRow w' base v acc :=
  h.kept hb.grownBy (.inr (fun e => by have := (h.lt g e).1; omega))
theorem BRow.below {w w' : World} {base v acc} (h : BRow w base v acc) (hb : Below w.heap.size w w') : BRow w' base v acc :=
  h.kept (row := none) ⟨hb.os, hb.tape, hb.output, hb.size, fun k hk _ => hb.block k hk⟩ (by cases v.ownBlock <;> simp)
theorem But.grown {g : Nat} {a w w' : World} {row : Option Nat} (h : But g a w) (hg : w.grownBy w' row) (hr : ∀ k, row = some k → a.heap.size ≤ k) : But g a w' :=
  ⟨hg.os.trans h.os, hg.tape.trans h.tape, hg.output.trans h.output, Nat.le_trans h.size hg.size, fun k hk hne => (hg.block k (Nat.lt_of_lt_of_le hk h.size) (fun e => by have := hr k e.symm; omega)).trans (h.block k hk hne)⟩
theorem PS.grown {w w' : World} {g s i} {row : Option Nat} (h : PS w g s i) (hg : w.grownBy w' row) (hr : some g ≠ row) : PS w' g s i := (hg.block g h.lt hr).trans h
theorem own_ne {v : Value} {base g : Nat} {w : World} {acc} (h : BRow w base v acc) (hg : g < base) : some g ≠ v.ownBlock := fun e => by have := (h.lt g e.symm).1; omega

theorem uinfo : (Tryd.prog.info? 5).map (fun i => (i.zero, i.size, i.bytes)) = some (some (.int .u8 0), 1, 1) := by kernel_rfl

theorem strOfNums_bytes (acc : List UInt8) : strOfNums (acc.map fun b => (b.toNat : Int)) = ⟨acc.toArray⟩ := by
  have h : (acc.map fun b => (b.toNat : Int)).map (fun n => UInt8.ofNat n.toNat) = acc := by
    rw [List.map_map]
    exact (List.map_congr_left (fun b _ => by simp)).trans (List.map_id _)
  unfold strOfNums
  rw [h]

/-- what a row of bytes is as a text -/
theorem BRow.text {w : World} {base : Nat} {v : Value} {acc : List UInt8} (h : BRow w base v acc) :
    (convert 53 9 v).run Tryd.prog w = .ok (.string ⟨acc.toArray⟩) w := by
  obtain ⟨h1, h2⟩ := h
  rcases h2 with ⟨rfl, h2⟩ | ⟨g, cap, cur, rfl, hg, hh, hn, hc, hs, ht⟩
  · have : acc = [] := by simpa using h2
    subst this
    exact run_convert_bytes_nil w 53 5 Tryd.underlying53 Tryd.underlying5 0 0 9 Tryd.underlying9
  · have key := run_convert_bytes_arg (P := Tryd.prog) w 53 5 Tryd.underlying53 Tryd.underlying5 g 0 acc.length cap (acc.map fun b => (b.toNat : Int)) (by simp) (by
      intro i hi
      simp only [World.cell?, hh, Option.isSome_none, Bool.false_eq_true, if_false, Nat.zero_add]
      have h3 : cur.toList[i]? = (cur.toList.take (acc.length * 1))[i]? := by rw [List.getElem?_take]; rw [if_pos (by omega)]
      rw [← Array.getElem?_toList, h3, ht]
      simp [List.getD, hi]) 9 Tryd.underlying9
    rw [strOfNums_bytes] at key
    exact key

/-! ### what is behind a stroke lies in the text -/
theorem bt_in {s : ByteArray} {i : Nat} (h : bt s i ≠ 0) : i < s.size := by
  by_cases hi : i < s.size
  · exact hi
  · exact absurd (bt_out (by omega)) h
theorem hexV_zero : hexV 0 = none := by decide
theorem hexF_in {s : ByteArray} : ∀ {n i x r : Nat}, hexF s n i x = some r → n = 0 ∨ i + n ≤ s.size
  | 0, i, x, r, h => .inl rfl
  | n + 1, i, x, r, h => by
    unfold hexF at h
    cases hv : hexV (bt s i) with
    | none => rw [hv] at h; cases h
    | some v =>
      rw [hv] at h
      have hi : i < s.size := bt_in (fun e => by rw [e, hexV_zero] at hv; cases hv)
      rcases hexF_in h with h1 | h1 <;> right <;> omega
theorem hexS_in {s : ByteArray} {i r : Nat} (h : hexS s i = some r) : i + 4 ≤ s.size := by
  rcases hexF_in h with h1 | h1 <;> omega
theorem putS_size (r : Int) : (putS r).size ≤ 4 := by
  unfold putS
  split
  · simp [strOfNums_size]
  · split
    · simp [strOfNums_size]
    · split
      · simp [strOfNums_size]
      · simp [strOfNums_size]
theorem oneB_size (c : Nat) : (oneB c).size = 1 := by simp [oneB, strOfNums_size]
theorem escS_in {s : ByteArray} {i j : Nat} {e : ByteArray} (h : escS s i = some (e, j)) : i < j ∧ j ≤ s.size ∧ e.size + i ≤ j := by
  have h0 : i < s.size := bt_in (fun e0 => by
    unfold escS at h; rw [e0] at h; simp at h)
  unfold escS at h
  simp only at h
  split at h
  · injection h with h; injection h with h1 h2; subst h1; rw [oneB_size]; omega
  · iterate 5
      split at h
      · injection h with h; injection h with h1 h2; subst h1; exact ⟨by omega, by omega, by rw [← h2]; exact Nat.le_of_eq (Nat.add_comm 1 i)⟩
    split at h
    · cases hr : hexS s (i + 1) with
      | none => rw [hr] at h; cases h
      | some r =>
        have h4 := hexS_in hr
        rw [hr] at h
        simp only at h
        split at h
        · split at h
          · cases hl : hexS s (i + 7) with
            | none => rw [hl] at h; cases h
            | some low =>
              have h5 := hexS_in hl
              rw [hl] at h
              simp only at h
              split at h
              · injection h with h; injection h with h1 h2
                subst h1
                have := putS_size ((65536 + (r - 55296) * 1024 + (low - 56320) : Nat) : Int)
                omega
              · cases h
          · cases h
        · split at h
          · injection h with h; injection h with h1 h2
            subst h1
            have := putS_size (r : Int)
            omega
          · cases h
    · cases h
/-- more rounds give the same text -/
theorem txtF_key (s : ByteArray) : ∀ (a b i : Nat) (acc : List UInt8), s.size < a + i → s.size < b + i → txtF s a i acc = txtF s b i acc := by
  have out : ∀ (n i : Nat) (acc : List UInt8), s.size ≤ i → txtF s n i acc = none := by
    intro n i acc h
    cases n with
    | zero => rfl
    | succ n =>
      have h0 : bt s i = 0 := bt_out h
      have h1 : runeS s i = (0, 0) := by unfold runeS; rw [if_neg (by omega)]
      simp [txtF, h0, h1]
  intro a
  induction a with
  | zero => intro b i acc h1 h2; rw [out 0 i acc (by omega), out b i acc (by omega)]
  | succ a ih =>
    intro b i acc h1 h2
    cases b with
    | zero => rw [out 0 i acc (by omega), out (a + 1) i acc (by omega)]
    | succ b =>
      unfold txtF
      split
      · rfl
      · split
        · cases he : escS s (i + 1) with
          | none => rfl
          | some p =>
            obtain ⟨e, j⟩ := p
            have := escS_in he
            exact ih b j _ (by omega) (by omega)
        · split
          · rfl
          · have := runeS_le s i
            exact ih b _ _ (by omega) (by omega)

end Go.Proofs.YtbhnfehpbbibbaaDoor
