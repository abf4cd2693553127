/- Package utf's First and Valid, and the reference's next, Rune, First and Valid: all answer by one plain function of the text. Package utf's First and Valid, and the reference's Rune, First and Valid, for every text of at most 140737488351232 bytes. Package utf's First and Valid and the reference's, for every text of at most 140737488351232 bytes: the first place that is no rune's beginning, by one plain function. Package utf's Put and the reference's PutRune: the bytes of a rune. -/
import Derived.Test.YtbhnfehpbbibbaaDoorM01
import Derived.Laws.BytesArg

namespace Go.Proofs.YtbhnfehpbbibbaaDoor
open Go.RowKit

/-! ### the plain side -/
theorem cls_pos {c : Nat} (h : cls c ≠ 0) : cls c = 1 ∨ cls c = 2 ∨ cls c = 3 ∨ cls c = 4 := by have := cls_le c; omega
theorem tail_le {s : ByteArray} : ∀ {m i acc r : Nat}, tailR s m i acc = some r → i ≤ s.size → i + m ≤ s.size
  | 0, i, acc, r, _, h => by omega
  | m + 1, i, acc, r, h, hi => by
    by_cases hx : s.size < i + (m + 1)
    · rw [tail_short s (m + 1) i acc hx hi] at h; cases h
    · omega
theorem runeOf_le {s : ByteArray} {i n : Nat} (hi : i < s.size) (h1 : 1 ≤ n) : (runeOf s i n).2 = 0 ∨ ((runeOf s i n).2 = n ∧ i + n ≤ s.size) := by
  unfold runeOf
  split
  · exact .inl rfl
  · rename_i r hr
    split
    · have := tail_le hr (by omega); exact .inr ⟨rfl, by omega⟩
    · exact .inl rfl
theorem runeS_le (s : ByteArray) (i : Nat) : (runeS s i).2 = 0 ∨ (1 ≤ (runeS s i).2 ∧ (runeS s i).2 ≤ 4 ∧ i + (runeS s i).2 ≤ s.size) := by
  unfold runeS
  split
  · rename_i hi
    split
    · exact .inl rfl
    · rename_i hc
      have := cls_le (bt s i)
      rcases runeOf_le (s := s) (i := i) (n := cls (bt s i)) hi (by omega) with h | ⟨h, h2⟩
      · exact .inl h
      · exact .inr (by rw [h]; omega)
  · exact .inl rfl
/-- the first place that is no rune's beginning -/
def firstF (s : ByteArray) : Nat → Nat → Option Nat
  | 0, _ => none
  | k + 1, i => if i < s.size then (if (runeS s i).2 = 0 then some i else firstF s k (i + (runeS s i).2)) else none
def validS (s : ByteArray) : Bool := (firstF s (s.size + 1) 0).isNone
def firstZ : Option Nat → Int | none => -1 | some i => i
theorem firstZ_neg (o : Option Nat) : decide (firstZ o < 0) = o.isNone := by
  cases o with
  | none => rfl
  | some i => simp only [firstZ, Option.isNone_some]; exact decide_eq_false (by omega)

theorem runeS_1 {s : ByteArray} {i : Nat} (hi : i < s.size) (h : bt s i < 128) : runeS s i = (bt s i, 1) := by
  have hc : cls (bt s i) = 1 := by simp [cls, h]
  have hm : mayB (bt s i) = true := by simp [mayB]; omega
  unfold runeS; rw [if_pos hi, hc]
  simp [runeOf, tailR, baseR, leastR, hm]
theorem runeS_bad {s : ByteArray} {i : Nat} (hi : i < s.size) (h : 128 ≤ bt s i ∧ bt s i < 194 ∨ 244 < bt s i) : runeS s i = (0, 0) := by
  unfold runeS; rw [if_pos hi]
  split
  · rfl
  · rename_i hc
    have hb := bt_lt s i
    rcases cls_pos hc with e | e | e | e <;> rw [e] <;> simp only [cls] at e
    · exfalso; revert e; (repeat' split) <;> omega
    · have : bt s i = 192 ∨ bt s i = 193 := by revert e; (repeat' split) <;> omega
      unfold runeOf
      simp only [tailR, baseR, leastR, Nat.add_one_sub_one]
      by_cases hcb : contB s (i + 1) = true
      · have hcc : 128 ≤ bt s (i + 1) ∧ bt s (i + 1) < 192 := of_decide_eq_true hcb
        simp only [hcb, if_true]
        rw [if_neg (by omega)]
      · simp [hcb]
    · exfalso; revert e; (repeat' split) <;> omega
    · have : 245 ≤ bt s i ∧ bt s i < 248 := by revert e; (repeat' split) <;> omega
      unfold runeOf
      simp only [tailR, baseR, leastR]
      by_cases hcb : contB s (i + 1) = true
      · simp only [hcb, if_true]
        by_cases hcb2 : contB s (i + 1 + 1) = true
        · simp only [hcb2, if_true]
          by_cases hcb3 : contB s (i + 1 + 1 + 1) = true
          · simp only [hcb3, if_true]
            rw [if_neg (by simp only [mayB, decide_eq_true_eq]; omega)]
          · simp [hcb3]
        · simp [hcb2]
      · simp [hcb]
theorem runeS_2 {s : ByteArray} {i : Nat} (hi : i < s.size) (h1 : 194 ≤ bt s i) (h2 : bt s i < 224) :
    runeS s i = if contB s (i + 1) = true then ((bt s i - 192) * 64 + (bt s (i + 1) - 128), 2) else (0, 0) := by
  have hc : cls (bt s i) = 2 := by unfold cls; rw [if_neg (by omega), if_neg (by omega), if_pos h2]
  unfold runeS; rw [if_pos hi, hc, if_neg (by decide)]
  simp only [runeOf, tailR, baseR, leastR, Nat.add_assoc, Nat.reduceAdd]
  by_cases hcb : contB s (i + 1) = true
  · have hcc : 128 ≤ bt s (i + 1) ∧ bt s (i + 1) < 192 := of_decide_eq_true hcb
    simp only [hcb, if_true]
    rw [if_pos ⟨by omega, by simp only [mayB, decide_eq_true_eq]; omega⟩]
  · simp [hcb]
theorem runeS_3 {s : ByteArray} {i : Nat} (hi : i < s.size) (h1 : 224 ≤ bt s i) (h2 : bt s i < 240) :
    runeS s i = if contB s (i + 1) = true ∧ contB s (i + 2) = true then (if 2048 ≤ ((bt s i - 224) * 64 + (bt s (i + 1) - 128)) * 64 + (bt s (i + 2) - 128) ∧ mayB (((bt s i - 224) * 64 + (bt s (i + 1) - 128)) * 64 + (bt s (i + 2) - 128)) = true then (((bt s i - 224) * 64 + (bt s (i + 1) - 128)) * 64 + (bt s (i + 2) - 128), 3) else (0, 0)) else (0, 0) := by
  have hc : cls (bt s i) = 3 := by unfold cls; rw [if_neg (by omega), if_neg (by omega), if_neg (by omega), if_pos h2]
  unfold runeS; rw [if_pos hi, hc, if_neg (by decide)]
  simp only [runeOf, tailR, baseR, leastR, Nat.add_assoc, Nat.reduceAdd]
  by_cases hcb : contB s (i + 1) = true
  · by_cases hcb2 : contB s (i + 2) = true
    · simp only [hcb, hcb2, if_true, and_self]
    · simp [hcb, hcb2]
  · simp [hcb]
theorem runeS_4 {s : ByteArray} {i : Nat} (hi : i < s.size) (h1 : 240 ≤ bt s i) (h2 : bt s i < 245) :
    runeS s i = if contB s (i + 1) = true ∧ contB s (i + 2) = true ∧ contB s (i + 3) = true then (if 65536 ≤ (((bt s i - 240) * 64 + (bt s (i + 1) - 128)) * 64 + (bt s (i + 2) - 128)) * 64 + (bt s (i + 3) - 128) ∧ mayB ((((bt s i - 240) * 64 + (bt s (i + 1) - 128)) * 64 + (bt s (i + 2) - 128)) * 64 + (bt s (i + 3) - 128)) = true then ((((bt s i - 240) * 64 + (bt s (i + 1) - 128)) * 64 + (bt s (i + 2) - 128)) * 64 + (bt s (i + 3) - 128), 4) else (0, 0)) else (0, 0) := by
  have hc : cls (bt s i) = 4 := by unfold cls; rw [if_neg (by omega), if_neg (by omega), if_neg (by omega), if_neg (by omega), if_pos (by omega)]
  unfold runeS; rw [if_pos hi, hc, if_neg (by decide)]
  simp only [runeOf, tailR, baseR, leastR, Nat.add_assoc, Nat.reduceAdd]
  by_cases hcb : contB s (i + 1) = true
  · by_cases hcb2 : contB s (i + 2) = true
    · by_cases hcb3 : contB s (i + 3) = true
      · simp only [hcb, hcb2, hcb3, if_true, and_self]
      · simp [hcb, hcb2, hcb3]
    · simp [hcb, hcb2]
  · simp [hcb]
def nextZ (s : ByteArray) (i : Nat) : Int := if contB s i = true then (bt s i : Int) - 128 else -1
theorem nextZ_bd (s : ByteArray) (i : Nat) : -1 ≤ nextZ s i ∧ nextZ s i ≤ 63 := by
  unfold nextZ; split
  · rename_i h; have : 128 ≤ bt s i ∧ bt s i < 192 := of_decide_eq_true h; omega
  · omega
theorem nextZ_ge {s : ByteArray} {i : Nat} : 0 ≤ nextZ s i ↔ contB s i = true := by
  unfold nextZ; split
  · rename_i h; have : 128 ≤ bt s i ∧ bt s i < 192 := of_decide_eq_true h; simp [h]; omega
  · rename_i h; simp [h]

/-! ### the walks -/
set_option maxHeartbeats 400000 in
theorem rune_out (s : ByteArray) (i : Nat) (w : World) (hs : s.size ≤ maxLen) (hi : s.size ≤ i) :
    Calls Tryd.prog 49 #[.string s, .int .i64 i] w fun e w' => e = .returned (.tuple #[.int .i64 0, .int .i64 0]) ∧ Below w.heap.size w w' := by
  unfold maxLen at hs
  have h1 : (s.size : Int) ≤ i := by omega
  go_enter Tryd.func49, Tryd.ntmps49
  go_wp2_with fail
  go_ret2
  exact ⟨rfl, by (repeat' (first | (with_reducible exact Below.refl _ _) | (with_reducible assumption) | (with_reducible refine below_drewN ?_ _) | (with_reducible refine Below.drew ?_) | (with_reducible refine Below.alloc ?_ ?_ _) | (with_reducible refine Below.setCell ?_ ?_ _) | (with_reducible exact Nat.le_refl _) | omega | (simp only [World.size_alloc, World.size_setCell, World.size_drew]; omega) | (simp; done) | (simp; omega)))⟩

/-- RUNE: every text, every place. -/
theorem rune_any (s : ByteArray) (i : Nat) (w : World) (hs : s.size ≤ maxLen) :
    Calls Tryd.prog 49 #[.string s, .int .i64 i] w fun e w' => e = .returned (.tuple #[.int .i64 (runeS s i).1, .int .i64 (runeS s i).2]) ∧ Below w.heap.size w w' := by
  by_cases hi : i < s.size
  · have hr : runeS s i = if cls (bt s i) = 0 then (0, 0) else runeOf s i (cls (bt s i)) := by unfold runeS; rw [if_pos hi]
    rw [hr]
    by_cases hc : cls (bt s i) = 0
    · rw [if_pos hc]; exact rune_0 s i w hs hi hc
    · rw [if_neg hc]
      rcases cls_pos hc with e | e | e | e <;> rw [e]
      · exact rune_1 s i w hs hi e
      · exact rune_2 s i w hs hi e
      · exact rune_3 s i w hs hi e
      · exact rune_4 s i w hs hi e
  · have hr : runeS s i = (0, 0) := by unfold runeS; rw [if_neg hi]
    rw [hr]; exact rune_out s i w hs (by omega)

theorem rune_any' (s : ByteArray) (i : Nat) (w : World) (hs : s.size ≤ maxLen) :
    Calls Tryd.prog 49 #[.string s, .int .i64 i] w fun e w' => ∃ r n : Nat, e = .returned (.tuple #[.int .i64 r, .int .i64 n]) ∧ Hid (runeS s i = (r, n)) ∧ Below w.heap.size w w' :=
  (rune_any s i w hs).mono fun _ _ ⟨h1, h2⟩ => ⟨_, _, h1, rfl, h2⟩

set_option maxHeartbeats 400000 in
theorem refNext_any (s : ByteArray) (i : Nat) (w : World) (hs : s.size ≤ maxLen) :
    Calls Tryd.prog 61 #[.string s, .int .i64 i] w fun e w' => ∃ A : Int, e = .returned (.int .i64 A) ∧ Hid (A = nextZ s i) ∧ (-1 ≤ A ∧ A ≤ 63) ∧ w = w' := by
  unfold maxLen at hs
  by_cases hi : i < s.size
  · have hb := bt_at hi
    have hl : (s[i]'hi).toNat < 256 := UInt8.toNat_lt _
    have hcb : contB s i = decide (128 ≤ (s[i]'hi).toNat ∧ (s[i]'hi).toNat < 192) := by unfold contB; rw [hb]
    by_cases h1 : (s[i]'hi).toNat < 128
    · have hN : Hid ((-1 : Int) = nextZ s i) := by
        show _ = _
        unfold nextZ; rw [hcb, if_neg (by simp; omega)]
      clear hb hcb
      go_enter Tryd.func61, Tryd.ntmps61
      go_wp2
      go_ret
      exact ⟨-1, rfl, hN, by omega, rfl⟩
    · by_cases h2 : 191 < (s[i]'hi).toNat
      · have hN : Hid ((-1 : Int) = nextZ s i) := by
          show _ = _
          unfold nextZ; rw [hcb, if_neg (by simp; omega)]
        clear hb hcb
        go_enter Tryd.func61, Tryd.ntmps61
        go_wp2
        go_ret
        exact ⟨-1, rfl, hN, by omega, rfl⟩
      · have hN : Hid (((s[i]'hi).toNat : Int) - 128 = nextZ s i) := by
          show _ = _
          unfold nextZ; rw [hcb, if_pos (by simp; omega), hb]
        clear hb hcb
        go_enter Tryd.func61, Tryd.ntmps61
        go_wp2
        go_ret
        exact ⟨_, rfl, hN, by omega, rfl⟩
  · have hN : Hid ((-1 : Int) = nextZ s i) := by
      show _ = _
      have := bt_out (s := s) (i := i) (by omega)
      unfold nextZ contB; rw [this]; simp
    have h1 : (s.size : Int) ≤ i := by omega
    go_enter Tryd.func61, Tryd.ntmps61
    go_wp2
    go_ret
    exact ⟨-1, rfl, hN, by omega, rfl⟩

end Go.Proofs.YtbhnfehpbbibbaaDoor

namespace Go.Proofs.YtbhnfehpbbibbaaDoor
open Go.RowKit

theorem refRune_tail (x y z : Int) (s : ByteArray) (i n : Nat) (h : runeS s i = (x.toNat, n)) (hx : 0 ≤ x) (hz : z = x) : (Value.tuple #[.int .i64 z, .int .i64 n]) = .tuple #[.int .i64 (runeS s i).1, .int .i64 (runeS s i).2] := by
  rw [h, hz]; simp only [Int.toNat_of_nonneg hx]

theorem refNext_at (s : ByteArray) (i : Nat) (j : Int) (w : World) (hs : s.size ≤ maxLen) (hj : j = i) :
    Calls Tryd.prog 61 #[.string s, .int .i64 j] w fun e w' => ∃ A : Int, e = .returned (.int .i64 A) ∧ Hid (A = nextZ s i) ∧ (-1 ≤ A ∧ A ≤ 63) ∧ w = w' := by
  subst hj; exact refNext_any s i w hs

/-- what the reference makes of a first byte and of three that go on -/
def refR (C a b d : Int) : Int × Int :=
  if C < 224 then (if 0 ≤ a then ((C - 192) * 64 + a, 2) else (0, 0))
  else if C < 240 then (if 0 ≤ a ∧ 0 ≤ b then (if 2048 ≤ (C - 224) * 4096 + a * 64 + b ∧ ((C - 224) * 4096 + a * 64 + b < 55296 ∨ 57343 < (C - 224) * 4096 + a * 64 + b) then ((C - 224) * 4096 + a * 64 + b, 3) else (0, 0)) else (0, 0))
  else (if 0 ≤ a ∧ 0 ≤ b ∧ 0 ≤ d then (if 65536 ≤ (C - 240) * 262144 + a * 4096 + b * 64 + d ∧ (C - 240) * 262144 + a * 4096 + b * 64 + d ≤ 1114111 then ((C - 240) * 262144 + a * 4096 + b * 64 + d, 4) else (0, 0)) else (0, 0))
theorem nextZ_yes {s : ByteArray} {i : Nat} {A : Int} (h : A = nextZ s i) (h0 : 0 ≤ A) : contB s i = true ∧ A = (bt s i - 128 : Nat) ∧ bt s i - 128 < 64 := by
  subst h
  have hc := nextZ_ge.1 h0
  have : 128 ≤ bt s i ∧ bt s i < 192 := of_decide_eq_true hc
  refine ⟨hc, ?_, by omega⟩
  unfold nextZ; rw [if_pos hc]; omega
theorem nextZ_no {s : ByteArray} {i : Nat} {A : Int} (h : A = nextZ s i) (h0 : ¬ 0 ≤ A) : ¬ contB s i = true := fun hc => h0 (by subst h; exact nextZ_ge.2 hc)
theorem may_mid (r : Nat) (h : r ≤ 1114111) : (mayB r = true) ↔ (r < 55296 ∨ 57343 < r) := by simp only [mayB, decide_eq_true_eq]; omega
theorem may_top (r : Nat) (h : 65536 ≤ r) : (mayB r = true) ↔ r ≤ 1114111 := by simp only [mayB, decide_eq_true_eq]; omega
theorem refR_is {s : ByteArray} {i : Nat} {C a b d : Int} (hi : i < s.size) (hC : C = bt s i) (h1 : 194 ≤ C) (h2 : C ≤ 244) (ha : a = nextZ s (i + 1)) (hb : b = nextZ s (i + 2)) (hd : d = nextZ s (i + 3)) :
    refR C a b d = (((runeS s i).1 : Int), ((runeS s i).2 : Int)) := by
  have zero : runeS s i = (0, 0) → ((0 : Int), (0 : Int)) = (((runeS s i).1 : Int), ((runeS s i).2 : Int)) := fun h => by rw [h]; rfl
  have some_ : ∀ r n : Nat, runeS s i = (r, n) → ((r : Int), (n : Int)) = (((runeS s i).1 : Int), ((runeS s i).2 : Int)) := fun r n h => by rw [h]
  unfold refR
  by_cases k1 : C < 224
  · rw [if_pos k1]
    by_cases a0 : 0 ≤ a
    · obtain ⟨c1, e1, l1⟩ := nextZ_yes ha a0
      rw [if_pos a0, show (C - 192) * 64 + a = (((bt s i - 192) * 64 + (bt s (i + 1) - 128) : Nat) : Int) from by omega]
      exact some_ _ 2 (by rw [runeS_2 hi (by omega) (by omega), if_pos c1])
    · rw [if_neg a0]
      exact zero (by rw [runeS_2 hi (by omega) (by omega), if_neg (nextZ_no ha a0)])
  · rw [if_neg k1]
    by_cases k2 : C < 240
    · rw [if_pos k2]
      by_cases a0 : 0 ≤ a ∧ 0 ≤ b
      · obtain ⟨c1, e1, l1⟩ := nextZ_yes ha a0.1
        obtain ⟨c2, e2, l2⟩ := nextZ_yes hb a0.2
        rw [if_pos a0]
        have hR := runeS_3 hi (by omega) (show bt s i < 240 by omega)
        rw [if_pos ⟨c1, c2⟩] at hR
        generalize hr : ((bt s i - 224) * 64 + (bt s (i + 1) - 128)) * 64 + (bt s (i + 2) - 128) = r at hR
        have er : (C - 224) * 4096 + a * 64 + b = (r : Int) := by omega
        have hm := may_mid r (by omega)
        rw [er]
        by_cases q : 2048 ≤ r ∧ (r < 55296 ∨ 57343 < r)
        · rw [if_pos ⟨q.1, hm.2 q.2⟩] at hR
          rw [if_pos (by omega)]; exact some_ r 3 hR
        · rw [if_neg (fun h => q ⟨h.1, hm.1 h.2⟩)] at hR
          rw [if_neg (by omega)]; exact zero hR
      · rw [if_neg a0]
        refine zero ?_
        rw [runeS_3 hi (by omega) (by omega), if_neg]
        rintro ⟨c1, c2⟩
        exact a0 ⟨by rw [ha]; exact nextZ_ge.2 c1, by rw [hb]; exact nextZ_ge.2 c2⟩
    · rw [if_neg k2]
      by_cases a0 : 0 ≤ a ∧ 0 ≤ b ∧ 0 ≤ d
      · obtain ⟨c1, e1, l1⟩ := nextZ_yes ha a0.1
        obtain ⟨c2, e2, l2⟩ := nextZ_yes hb a0.2.1
        obtain ⟨c3, e3, l3⟩ := nextZ_yes hd a0.2.2
        rw [if_pos a0]
        have hR := runeS_4 hi (by omega) (show bt s i < 245 by omega)
        rw [if_pos ⟨c1, c2, c3⟩] at hR
        generalize hr : (((bt s i - 240) * 64 + (bt s (i + 1) - 128)) * 64 + (bt s (i + 2) - 128)) * 64 + (bt s (i + 3) - 128) = r at hR
        have er : (C - 240) * 262144 + a * 4096 + b * 64 + d = (r : Int) := by omega
        rw [er]
        by_cases q : 65536 ≤ r ∧ r ≤ 1114111
        · rw [if_pos ⟨q.1, (may_top r q.1).2 q.2⟩] at hR
          rw [if_pos (by omega)]; exact some_ r 4 hR
        · rw [if_neg (fun h => q ⟨h.1, (may_top r h.1).1 h.2⟩)] at hR
          rw [if_neg (by omega)]; exact zero hR
      · rw [if_neg a0]
        refine zero ?_
        rw [runeS_4 hi (by omega) (by omega), if_neg]
        rintro ⟨c1, c2, c3⟩
        exact a0 ⟨by rw [ha]; exact nextZ_ge.2 c1, by rw [hb]; exact nextZ_ge.2 c2, by rw [hd]; exact nextZ_ge.2 c3⟩

theorem refR_ret {C a b d x n y z : Int} (h : refR C a b d = (x, n)) (k : refR C a b d = (y, z)) : Ending.returned (.tuple #[.int .i64 x, .int .i64 n]) = .returned (.tuple #[.int .i64 y, .int .i64 z]) := by
  rw [h] at k; injection k with k1 k2; rw [k1, k2]

set_option maxRecDepth 100000 in
set_option maxHeartbeats 1000000 in
theorem refRune_any (s : ByteArray) (i : Nat) (w : World) (hs : s.size ≤ 140737488351232) :
    Calls Tryd.prog 50 #[.string s, .int .i64 i] w fun e w' => e = .returned (.tuple #[.int .i64 (runeS s i).1, .int .i64 (runeS s i).2]) ∧ w = w' := by
  have hm : s.size ≤ maxLen := by unfold maxLen; omega
  by_cases hi : i < s.size
  · have hb := bt_at hi
    have hl := bt_lt s i
    obtain ⟨C, hC⟩ : ∃ C : Int, ((s[i]'hi).toNat : Int) = C := ⟨_, rfl⟩
    have hCb : C = bt s i := by rw [hb]; exact hC.symm
    have hC0 : 0 ≤ C := by omega
    have hC1 : C < 256 := by omega
    by_cases k1 : C < 128
    · have HR := Lib.hid (refRune_tail C 0 C s i 1 (by rw [runeS_1 hi (by omega)]; congr 1; omega) hC0 rfl)
      clear hCb hb hl
      go_enter Tryd.func50, Tryd.ntmps50
      go_wp2_with fail
      go_ret2
      exact ⟨by rw [← HR.out]; rfl, rfl⟩
    · by_cases k2 : C < 194 ∨ 244 < C
      · have HR := Lib.hid (refRune_tail 0 0 0 s i 0 (by rw [runeS_bad hi (by omega)]; rfl) (by omega) rfl)
        clear hCb hb hl
        rcases k2 with k2 | k2
        · go_enter Tryd.func50, Tryd.ntmps50
          go_wp2_with fail
          go_ret2
          exact ⟨by rw [← HR.out]; rfl, rfl⟩
        · go_enter Tryd.func50, Tryd.ntmps50
          go_wp2_with fail
          go_ret2
          exact ⟨by rw [← HR.out]; rfl, rfl⟩
      · have HC := Lib.hid hCb
        have k3 : 194 ≤ C := by omega
        have k4 : C ≤ 244 := by omega
        clear hCb hb hl k2
        go_enter Tryd.func50, Tryd.ntmps50
        go_wp2_with fail
        refine (refNext_at s (i + 1) _ _ hm (by omega)).mono ?_
        rintro e w' ⟨a, rfl, Ha, ba, rfl⟩
        go_wp2_with fail
        refine (refNext_at s (i + 2) _ _ hm (by omega)).mono ?_
        rintro e w' ⟨b, rfl, Hb, bb, rfl⟩
        go_wp2_with fail
        refine (refNext_at s (i + 3) _ _ hm (by omega)).mono ?_
        rintro e w' ⟨d, rfl, Hd, bd, rfl⟩
        have HR := Lib.hid (refR_is hi HC.out k3 k4 Ha.out Hb.out Hd.out)
        obtain ⟨ba0, ba1⟩ := ba
        obtain ⟨bb0, bb1⟩ := bb
        obtain ⟨bd0, bd1⟩ := bd
        go_wp2_with fail
        all_goals
          go_ret2
          refine ⟨refR_ret ?_ HR.out, rfl⟩
          unfold refR
          (repeat' split) <;> first | rfl | (exfalso; omega)
  · have HR := Lib.hid (refRune_tail 0 0 0 s i 0 (by unfold runeS; rw [if_neg hi]; rfl) (by omega) rfl)
    have h1 : (s.size : Int) ≤ i := by omega
    go_enter Tryd.func50, Tryd.ntmps50
    go_wp2_with fail
    go_ret2
    exact ⟨by rw [← HR.out]; rfl, rfl⟩

end Go.Proofs.YtbhnfehpbbibbaaDoor

namespace Go.Proofs.YtbhnfehpbbibbaaDoor
open Go.RowKit

theorem firstF_step {s : ByteArray} {k i r n : Nat} (hr : runeS s i = (r, n)) (hi : i < s.size) (hn : n ≠ 0) : firstF s (k + 1) i = firstF s k (i + n) := by
  rw [firstF, if_pos hi, hr, if_neg hn]
theorem firstF_here {s : ByteArray} {k i r : Nat} (hr : runeS s i = (r, 0)) (hi : i < s.size) : firstF s (k + 1) i = some i := by
  rw [firstF, if_pos hi, hr, if_pos rfl]
theorem firstF_end {s : ByteArray} {k i : Nat} (hi : ¬ i < s.size) : firstF s (k + 1) i = none := by rw [firstF, if_neg hi]
theorem rune_bd {s : ByteArray} {i r n : Nat} (hr : runeS s i = (r, n)) (hn : n ≠ 0) : 1 ≤ n ∧ n ≤ 4 ∧ i + n ≤ s.size := by
  have h := runeS_le s i; rw [hr] at h; simp only at h; omega

theorem firstF_key (s : ByteArray) : ∀ a b j : Nat, s.size < a + j → s.size < b + j → firstF s a j = firstF s b j := by
  intro a
  induction a with
  | zero => intro b j h1 h2; cases b with | zero => rfl | succ b => rw [firstF_end (by omega)]; rfl
  | succ a ih =>
    intro b j h1 h2
    cases b with
    | zero => rw [firstF_end (by omega)]; rfl
    | succ b =>
      by_cases hj : j < s.size
      · by_cases hz : (runeS s j).2 = 0
        · rw [firstF_here (r := (runeS s j).1) (by rw [← hz]) hj, firstF_here (r := (runeS s j).1) (by rw [← hz]) hj]
        · have := rune_bd (r := (runeS s j).1) (n := (runeS s j).2) rfl hz
          rw [firstF_step (r := (runeS s j).1) rfl hj hz, firstF_step (r := (runeS s j).1) rfl hj hz]; exact ih b (j + (runeS s j).2) (by omega) (by omega)
      · rw [firstF_end hj, firstF_end hj]

theorem refRune_any' (s : ByteArray) (i : Nat) (w : World) (hs : s.size ≤ 140737488351232) :
    Calls Tryd.prog 50 #[.string s, .int .i64 i] w fun e w' => ∃ r n : Nat, e = .returned (.tuple #[.int .i64 r, .int .i64 n]) ∧ Hid (runeS s i = (r, n)) ∧ Below w.heap.size w w' :=
  (refRune_any s i w hs).mono fun _ _ ⟨h1, h2⟩ => ⟨_, _, h1, rfl, h2 ▸ Below.refl _ _⟩

set_option maxHeartbeats 400000 in
theorem first_any (s : ByteArray) (w : World) (hs : s.size ≤ 140737488351232) :
    Calls Tryd.prog 65 #[.string s] w fun e w' => e = .returned (.int .i64 (firstZ (firstF s (s.size + 1) 0))) ∧ Below w.heap.size w w' := by
  have hm : s.size ≤ maxLen := by unfold maxLen; omega
  go_enter Tryd.func65, Tryd.ntmps65
  go_wp2_with fail
  go_loopw [3] (fun v3 wr => ∃ i : Nat, v3 = .int .i64 i ∧ i ≤ s.size ∧ Hid (firstF s (s.size + 1) 0 = firstF s (s.size + 1 - i) i) ∧ Hid (Below w.heap.size w wr)) (fun v3 _ => s.size - (intOf v3).toNat)
  case atStart => exact ⟨0, rfl, by omega, rfl, Below.refl _ _⟩
  case round =>
    obtain ⟨i, rfl, hi, HF, HB⟩ := hrel
    by_cases hlt : i < s.size
    · go_wp2_with fail
      refine (rune_any' s i _ hm).mono ?_
      rintro e w' ⟨r, n, rfl, Hr, hb⟩
      have HB2 : Hid (Below w.heap.size w w') := HB.out.trans (hb.mono HB.out.size)
      clear hb
      by_cases hn : n = 0
      · subst hn
        have HE : Hid (firstF s (s.size + 1) 0 = some i) := by
          show _ = _
          rw [HF.out, show s.size + 1 - i = (s.size - i) + 1 from by omega]; exact firstF_here Hr.out hlt
        clear HF
        go_wp2_with fail
        go_ret
        exact ⟨by rw [HE.out]; rfl, HB2.out⟩
      · have hbd := rune_bd Hr.out hn
        have HE : Hid (firstF s (s.size + 1) 0 = firstF s (s.size + 1 - (i + n)) (i + n)) := by
          show _ = _
          rw [HF.out, show s.size + 1 - i = (s.size - i) + 1 from by omega, firstF_step Hr.out hlt hn]
          exact firstF_key s _ _ _ (by omega) (by omega)
        obtain ⟨hb1, hb2, hb3⟩ := hbd
        clear HF
        go_wp2_with fail
        go_roundw
        case rel => exact ⟨i + n, by go_num, by omega, HE, HB2⟩
        case measure => simp [intOf]; omega
    · have HE : Hid (firstF s (s.size + 1) 0 = none) := by
        show _ = _
        rw [HF.out, show s.size + 1 - i = (s.size - i) + 1 from by omega]; exact firstF_end hlt
      clear HF
      go_wp2_with fail
      go_ret
      exact ⟨by rw [HE.out]; rfl, HB.out⟩

set_option maxHeartbeats 400000 in
theorem refFirst_any (s : ByteArray) (w : World) (hs : s.size ≤ 140737488351232) :
    Calls Tryd.prog 56 #[.string s] w fun e w' => e = .returned (.int .i64 (firstZ (firstF s (s.size + 1) 0))) ∧ Below w.heap.size w w' := by
  have hm : s.size ≤ maxLen := by unfold maxLen; omega
  go_enter Tryd.func56, Tryd.ntmps56
  go_wp2_with fail
  go_loopw [3] (fun v3 wr => ∃ i : Nat, v3 = .int .i64 i ∧ i ≤ s.size ∧ Hid (firstF s (s.size + 1) 0 = firstF s (s.size + 1 - i) i) ∧ Hid (Below w.heap.size w wr)) (fun v3 _ => s.size - (intOf v3).toNat)
  case atStart => exact ⟨0, rfl, by omega, rfl, Below.refl _ _⟩
  case round =>
    obtain ⟨i, rfl, hi, HF, HB⟩ := hrel
    by_cases hlt : i < s.size
    · go_wp2_with fail
      refine (refRune_any' s i _ hs).mono ?_
      rintro e w' ⟨r, n, rfl, Hr, hb⟩
      have HB2 : Hid (Below w.heap.size w w') := HB.out.trans (hb.mono HB.out.size)
      clear hb
      by_cases hn : n = 0
      · subst hn
        have HE : Hid (firstF s (s.size + 1) 0 = some i) := by
          show _ = _
          rw [HF.out, show s.size + 1 - i = (s.size - i) + 1 from by omega]; exact firstF_here Hr.out hlt
        clear HF
        go_wp2_with fail
        go_ret
        exact ⟨by rw [HE.out]; rfl, HB2.out⟩
      · have hbd := rune_bd Hr.out hn
        have HE : Hid (firstF s (s.size + 1) 0 = firstF s (s.size + 1 - (i + n)) (i + n)) := by
          show _ = _
          rw [HF.out, show s.size + 1 - i = (s.size - i) + 1 from by omega, firstF_step Hr.out hlt hn]
          exact firstF_key s _ _ _ (by omega) (by omega)
        obtain ⟨hb1, hb2, hb3⟩ := hbd
        clear HF
        go_wp2_with fail
        go_roundw
        case rel => exact ⟨i + n, by go_num, by omega, HE, HB2⟩
        case measure => simp [intOf]; omega
    · have HE : Hid (firstF s (s.size + 1) 0 = none) := by
        show _ = _
        rw [HF.out, show s.size + 1 - i = (s.size - i) + 1 from by omega]; exact firstF_end hlt
      clear HF
      go_wp2_with fail
      go_ret
      exact ⟨by rw [HE.out]; rfl, HB.out⟩


theorem valid_any (s : ByteArray) (w : World) (hs : s.size ≤ 140737488351232) :
    Calls Tryd.prog 54 #[.string s] w fun e w' => e = .returned (.bool (validS s)) ∧ Below w.heap.size w w' := by
  have HE := Lib.hid (firstZ_neg (firstF s (s.size + 1) 0))
  go_enter Tryd.func54, Tryd.ntmps54
  go_wp2_with fail
  refine (first_any s _ hs).mono ?_
  rintro e w' ⟨rfl, hb⟩
  generalize firstZ (firstF s (s.size + 1) 0) = z at *
  go_wp2_with fail
  go_ret
  exact ⟨by show _ = Ending.returned (.bool (firstF s (s.size + 1) 0).isNone); rw [← HE.out]; rfl, hb⟩
theorem refValid_any (s : ByteArray) (w : World) (hs : s.size ≤ 140737488351232) :
    Calls Tryd.prog 41 #[.string s] w fun e w' => e = .returned (.bool (validS s)) ∧ Below w.heap.size w w' := by
  have HE : Hid ((firstZ (firstF s (s.size + 1) 0) == -1) = (firstF s (s.size + 1) 0).isNone) := by
    show _ = _
    cases firstF s (s.size + 1) 0 with
    | none => rfl
    | some i => simp only [firstZ, Option.isNone_some]; exact beq_eq_false_iff_ne.2 (by omega)
  go_enter Tryd.func41, Tryd.ntmps41
  go_wp2_with fail
  refine (refFirst_any s _ hs).mono ?_
  rintro e w' ⟨rfl, hb⟩
  generalize firstZ (firstF s (s.size + 1) 0) = z at *
  go_wp2_with fail
  go_ret
  exact ⟨by show _ = Ending.returned (.bool (firstF s (s.size + 1) 0).isNone); rw [← HE.out]; rfl, hb⟩

end Go.Proofs.YtbhnfehpbbibbaaDoor

namespace Go.Proofs.YtbhnfehpbbibbaaDoor
open Go.RowKit

theorem conv_new (w : World) (xs : List Int) (n : Nat) (hn : xs.length = n) (cs : Array Value) (hcs : cs = (xs.map (Value.int .u8)).toArray) :
    (convert 53 9 (.slice (some ⟨w.heap.size, 0, none⟩) n n)).run Tryd.prog (w.alloc (.cells cs 5)) = .ok (.string (strOfNums xs)) (w.alloc (.cells cs 5)) := by
  refine run_convert_bytes_arg (w.alloc (.cells cs 5)) 53 5 Tryd.underlying53 Tryd.underlying5 w.heap.size 0 n n xs hn ?_ 9 Tryd.underlying9
  intro i hi
  have h : (w.alloc (.cells cs 5)).heap[w.heap.size]? = some (.cells cs 5 (0, 0)) := by show (w.heap.push _)[w.heap.size]? = _; simp
  simp only [World.cell?, h, Option.isSome_none, Bool.false_eq_true, if_false, Nat.zero_add]
  subst hcs
  have : i < xs.length := by omega
  simp [List.getD, this]
theorem conv_1 (w : World) (k : Nat) (a : Int) (hk : w.heap.size = k) : (convert 53 9 (.slice (some ⟨k, 0, none⟩) 1 1)).run Tryd.prog (w.alloc (.cells #[.int .u8 a] 5)) = .ok (.string (strOfNums [a])) (w.alloc (.cells #[.int .u8 a] 5)) := hk ▸ conv_new w [a] 1 rfl _ rfl
theorem conv_2 (w : World) (k : Nat) (a b : Int) (hk : w.heap.size = k) : (convert 53 9 (.slice (some ⟨k, 0, none⟩) 2 2)).run Tryd.prog (w.alloc (.cells #[.int .u8 a, .int .u8 b] 5)) = .ok (.string (strOfNums [a, b])) (w.alloc (.cells #[.int .u8 a, .int .u8 b] 5)) := hk ▸ conv_new w [a, b] 2 rfl _ rfl
theorem conv_3 (w : World) (k : Nat) (a b c : Int) (hk : w.heap.size = k) : (convert 53 9 (.slice (some ⟨k, 0, none⟩) 3 3)).run Tryd.prog (w.alloc (.cells #[.int .u8 a, .int .u8 b, .int .u8 c] 5)) = .ok (.string (strOfNums [a, b, c])) (w.alloc (.cells #[.int .u8 a, .int .u8 b, .int .u8 c] 5)) := hk ▸ conv_new w [a, b, c] 3 rfl _ rfl
theorem conv_4 (w : World) (k : Nat) (a b c d : Int) (hk : w.heap.size = k) : (convert 53 9 (.slice (some ⟨k, 0, none⟩) 4 4)).run Tryd.prog (w.alloc (.cells #[.int .u8 a, .int .u8 b, .int .u8 c, .int .u8 d] 5)) = .ok (.string (strOfNums [a, b, c, d])) (w.alloc (.cells #[.int .u8 a, .int .u8 b, .int .u8 c, .int .u8 d] 5)) := hk ▸ conv_new w [a, b, c, d] 4 rfl _ rfl
theorem make_1 (w : World) : (Instr.makeSlice 53 (.int .i64 1) (.int .i64 1)).run Tryd.prog w = .ok (.slice (some ⟨w.heap.size, 0, none⟩) 1 1) (w.alloc (.cells #[.int .u8 0] 5)) := by kernel_rfl
theorem make_2 (w : World) : (Instr.makeSlice 53 (.int .i64 2) (.int .i64 2)).run Tryd.prog w = .ok (.slice (some ⟨w.heap.size, 0, none⟩) 2 2) (w.alloc (.cells #[.int .u8 0, .int .u8 0] 5)) := by kernel_rfl
theorem make_3 (w : World) : (Instr.makeSlice 53 (.int .i64 3) (.int .i64 3)).run Tryd.prog w = .ok (.slice (some ⟨w.heap.size, 0, none⟩) 3 3) (w.alloc (.cells #[.int .u8 0, .int .u8 0, .int .u8 0] 5)) := by kernel_rfl
theorem make_4 (w : World) : (Instr.makeSlice 53 (.int .i64 4) (.int .i64 4)).run Tryd.prog w = .ok (.slice (some ⟨w.heap.size, 0, none⟩) 4 4) (w.alloc (.cells #[.int .u8 0, .int .u8 0, .int .u8 0, .int .u8 0] 5)) := by kernel_rfl

end Go.Proofs.YtbhnfehpbbibbaaDoor
