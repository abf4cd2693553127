/- Package utf's Put and the reference's PutRune: the bytes of a rune, for every rune from 0 on. What a text of JSON means, as plain functions of its bytes: blanks, words, digits, escapes, texts, numbers, values. No program in sight. Package json's parser, its small parts: next, white, take, word, hex, for every text and place. Package json's parser: word and hex, for every text and place. -/
import Derived.Test.YtbhnfehpbbibbaaDoorM02

namespace Go.Proofs.YtbhnfehpbbibbaaDoor
open Go.RowKit

def putS (r : Int) : ByteArray := if r < 128 then strOfNums [r] else if r < 2048 then strOfNums [192 + r / 64, 128 + r % 64] else if r < 65536 then strOfNums [224 + r / 4096, 128 + r / 64 % 64, 128 + r % 64] else strOfNums [240 + r / 262144, 128 + r / 4096 % 64, 128 + r / 64 % 64, 128 + r % 64]
theorem i64_wraps (n : Int) (h0 : 0 ≤ n) (h1 : n < 2 ^ 63) : IntKind.i64.wrap n = n := by rw [IntKind.wrap_i64]; omega
theorem i64_and63 (x : Int) (h0 : 0 ≤ x) (h1 : x < 9223372036854775808) : bits .and .i64 x 63 = x % 64 := bits_mask .i64 63 (by decide) i64_wraps 6 (by decide) x h0 h1
theorem i64_or128 (y : Int) (h0 : 0 ≤ y) (h1 : y < 64) : bits .or .i64 128 y = 128 + y := bits_join .i64 63 (by decide) i64_wraps 6 128 y (by decide) (by decide) (by decide) h0 h1 (by omega)
theorem i64_or192 (y : Int) (h0 : 0 ≤ y) (h1 : y < 32) : bits .or .i64 192 y = 192 + y := bits_join .i64 63 (by decide) i64_wraps 5 192 y (by decide) (by decide) (by decide) h0 h1 (by omega)
theorem i64_or224 (y : Int) (h0 : 0 ≤ y) (h1 : y < 16) : bits .or .i64 224 y = 224 + y := bits_join .i64 63 (by decide) i64_wraps 4 224 y (by decide) (by decide) (by decide) h0 h1 (by omega)
theorem i64_or240 (y : Int) (h0 : 0 ≤ y) (h1 : y < 8) : bits .or .i64 240 y = 240 + y := bits_join .i64 63 (by decide) i64_wraps 3 240 y (by decide) (by decide) (by decide) h0 h1 (by omega)
theorem i64_or0 (y : Int) (h0 : 0 ≤ y) (h1 : y < 128) : bits .or .i64 0 y = y := (bits_join .i64 63 (by decide) i64_wraps 7 0 y (by decide) (by decide) (by decide) h0 h1 (by omega)).trans (by omega)

set_option maxRecDepth 100000 in
set_option maxHeartbeats 1000000 in
theorem putRef_1 (r : Int) (w : World) (h1 : 0 ≤ r) (h2 : r < 128) (hm : mayB r.toNat = true) :
    Calls Tryd.prog 63 #[.int .i64 r] w fun e w' => e = .returned (.tuple #[.string (strOfNums [r]), .int .i64 0]) ∧ Below w.heap.size w w' := by
  have k1 := conv_1; have k2 := conv_2; have k3 := conv_3; have k4 := conv_4
  have h3 : r < 55296 ∨ 57343 < r := by unfold mayB at hm; have := of_decide_eq_true hm; omega
  clear hm
  rcases h3 with h3 | h3
  · go_enter Tryd.func63, Tryd.ntmps63
    go_wp2_with fail
    go_ret2
    exact ⟨rfl, by (repeat' (first | (with_reducible exact Below.refl _ _) | (with_reducible assumption) | (with_reducible refine below_drewN ?_ _) | (with_reducible refine Below.drew ?_) | (with_reducible refine Below.alloc ?_ ?_ _) | (with_reducible refine Below.setCell ?_ ?_ _) | (with_reducible exact Nat.le_refl _) | omega | (simp only [World.size_alloc, World.size_setCell, World.size_drew]; omega) | (simp; done) | (simp; omega)))⟩
  · exfalso; omega

set_option maxRecDepth 100000 in
set_option maxHeartbeats 1000000 in
theorem put_1 (r : Int) (w : World) (h1 : 0 ≤ r) (h2 : r < 128) (hm : mayB r.toNat = true) :
    Calls Tryd.prog 58 #[.int .i64 r] w fun e w' => e = .returned (.tuple #[.string (strOfNums [r]), .int .i64 0]) ∧ Below w.heap.size w w' := by
  have k1 := conv_1; have k2 := conv_2; have k3 := conv_3; have k4 := conv_4
  have q1 := make_1; have q2 := make_2; have q3 := make_3; have q4 := make_4
  have HM := Lib.hid hm
  clear hm
  go_enter Tryd.func58, Tryd.ntmps58
  go_wp2_with fail
  refine (may_any _ _ (by omega)).mono ?_
  rintro e w' ⟨rfl, rfl⟩
  rw [HM.out]
  go_wp2_with fail
  refine (forms_any _).mono ?_
  rintro e w' ⟨rfl, rfl⟩
  unfold formsV
  go_wp2_with fail
  refine wp_loop_rounds 4 ?_
  rw [rounds_succ]
  go_wp2_with fail
  rw [rounds_succ]
  go_wp2_with fail
  rw [rounds_succ]
  go_wp2_with fail
  rw [rounds_succ]
  go_wp2_with fail
  refine wp_loop_rounds 1 ?_
  rw [rounds_succ]
  go_wp2_with fail
  go_ret2
  refine ⟨?_, by (repeat' (first | (with_reducible exact Below.refl _ _) | (with_reducible assumption) | (with_reducible refine below_drewN ?_ _) | (with_reducible refine Below.drew ?_) | (with_reducible refine Below.alloc ?_ ?_ _) | (with_reducible refine Below.setCell ?_ ?_ _) | (with_reducible exact Nat.le_refl _) | omega | (simp only [World.size_alloc, World.size_setCell, World.size_drew]; omega) | (simp; done) | (simp; omega)))⟩
  show Ending.returned (.tuple #[.string (strOfNums _), .int .i64 0]) = _
  refine congrArg (fun l => Ending.returned (.tuple #[.string (strOfNums l), .int .i64 0])) ?_
  rw [i64_or0 r h1 h2]; congr 1; omega

set_option maxRecDepth 100000 in
set_option maxHeartbeats 1000000 in
theorem putRef_2 (r : Int) (w : World) (h1 : 128 ≤ r) (h2 : r < 2048) (hm : mayB r.toNat = true) :
    Calls Tryd.prog 63 #[.int .i64 r] w fun e w' => e = .returned (.tuple #[.string (strOfNums [192 + r / 64, 128 + r % 64]), .int .i64 0]) ∧ Below w.heap.size w w' := by
  have k1 := conv_1; have k2 := conv_2; have k3 := conv_3; have k4 := conv_4
  have h3 : r < 55296 ∨ 57343 < r := by unfold mayB at hm; have := of_decide_eq_true hm; omega
  clear hm
  rcases h3 with h3 | h3
  · go_enter Tryd.func63, Tryd.ntmps63
    go_wp2_with fail
    go_ret2
    exact ⟨rfl, by (repeat' (first | (with_reducible exact Below.refl _ _) | (with_reducible assumption) | (with_reducible refine below_drewN ?_ _) | (with_reducible refine Below.drew ?_) | (with_reducible refine Below.alloc ?_ ?_ _) | (with_reducible refine Below.setCell ?_ ?_ _) | (with_reducible exact Nat.le_refl _) | omega | (simp only [World.size_alloc, World.size_setCell, World.size_drew]; omega) | (simp; done) | (simp; omega)))⟩
  · exfalso; omega

set_option maxRecDepth 100000 in
set_option maxHeartbeats 1000000 in
theorem put_2 (r : Int) (w : World) (h1 : 128 ≤ r) (h2 : r < 2048) (hm : mayB r.toNat = true) :
    Calls Tryd.prog 58 #[.int .i64 r] w fun e w' => e = .returned (.tuple #[.string (strOfNums [192 + r / 64, 128 + r % 64]), .int .i64 0]) ∧ Below w.heap.size w w' := by
  have k1 := conv_1; have k2 := conv_2; have k3 := conv_3; have k4 := conv_4
  have q1 := make_1; have q2 := make_2; have q3 := make_3; have q4 := make_4
  have HM := Lib.hid hm
  clear hm
  go_enter Tryd.func58, Tryd.ntmps58
  go_wp2_with fail
  refine (may_any _ _ (by omega)).mono ?_
  rintro e w' ⟨rfl, rfl⟩
  rw [HM.out]
  go_wp2_with fail
  refine (forms_any _).mono ?_
  rintro e w' ⟨rfl, rfl⟩
  unfold formsV
  go_wp2_with fail
  refine wp_loop_rounds 3 ?_
  rw [rounds_succ]
  go_wp2_with fail
  rw [rounds_succ]
  go_wp2_with fail
  rw [rounds_succ]
  go_wp2_with fail
  refine wp_loop_rounds 2 ?_
  rw [rounds_succ]
  go_wp2_with fail
  rw [rounds_succ]
  go_wp2_with fail
  go_ret2
  refine ⟨?_, by (repeat' (first | (with_reducible exact Below.refl _ _) | (with_reducible assumption) | (with_reducible refine below_drewN ?_ _) | (with_reducible refine Below.drew ?_) | (with_reducible refine Below.alloc ?_ ?_ _) | (with_reducible refine Below.setCell ?_ ?_ _) | (with_reducible exact Nat.le_refl _) | omega | (simp only [World.size_alloc, World.size_setCell, World.size_drew]; omega) | (simp; done) | (simp; omega)))⟩
  show Ending.returned (.tuple #[.string (strOfNums _), .int .i64 0]) = _
  refine congrArg (fun l => Ending.returned (.tuple #[.string (strOfNums l), .int .i64 0])) ?_
  rw [i64_and63 r (by omega) (by omega), i64_or128 _ (by omega) (by omega), i64_or192 _ (by omega) (by omega)]; congr 1 <;> (try congr 1) <;> omega

set_option maxRecDepth 100000 in
set_option maxHeartbeats 1000000 in
theorem putRef_3 (r : Int) (w : World) (h1 : 2048 ≤ r) (h2 : r < 65536) (hm : mayB r.toNat = true) :
    Calls Tryd.prog 63 #[.int .i64 r] w fun e w' => e = .returned (.tuple #[.string (strOfNums [224 + r / 4096, 128 + r / 64 % 64, 128 + r % 64]), .int .i64 0]) ∧ Below w.heap.size w w' := by
  have k1 := conv_1; have k2 := conv_2; have k3 := conv_3; have k4 := conv_4
  have h3 : r < 55296 ∨ 57343 < r := by unfold mayB at hm; have := of_decide_eq_true hm; omega
  clear hm
  rcases h3 with h3 | h3
  · go_enter Tryd.func63, Tryd.ntmps63
    go_wp2_with fail
    go_ret2
    exact ⟨rfl, by (repeat' (first | (with_reducible exact Below.refl _ _) | (with_reducible assumption) | (with_reducible refine below_drewN ?_ _) | (with_reducible refine Below.drew ?_) | (with_reducible refine Below.alloc ?_ ?_ _) | (with_reducible refine Below.setCell ?_ ?_ _) | (with_reducible exact Nat.le_refl _) | omega | (simp only [World.size_alloc, World.size_setCell, World.size_drew]; omega) | (simp; done) | (simp; omega)))⟩
  · go_enter Tryd.func63, Tryd.ntmps63
    go_wp2_with fail
    go_ret2
    exact ⟨rfl, by (repeat' (first | (with_reducible exact Below.refl _ _) | (with_reducible assumption) | (with_reducible refine below_drewN ?_ _) | (with_reducible refine Below.drew ?_) | (with_reducible refine Below.alloc ?_ ?_ _) | (with_reducible refine Below.setCell ?_ ?_ _) | (with_reducible exact Nat.le_refl _) | omega | (simp only [World.size_alloc, World.size_setCell, World.size_drew]; omega) | (simp; done) | (simp; omega)))⟩

set_option maxRecDepth 100000 in
set_option maxHeartbeats 1000000 in
theorem put_3 (r : Int) (w : World) (h1 : 2048 ≤ r) (h2 : r < 65536) (hm : mayB r.toNat = true) :
    Calls Tryd.prog 58 #[.int .i64 r] w fun e w' => e = .returned (.tuple #[.string (strOfNums [224 + r / 4096, 128 + r / 64 % 64, 128 + r % 64]), .int .i64 0]) ∧ Below w.heap.size w w' := by
  have k1 := conv_1; have k2 := conv_2; have k3 := conv_3; have k4 := conv_4
  have q1 := make_1; have q2 := make_2; have q3 := make_3; have q4 := make_4
  have HM := Lib.hid hm
  clear hm
  go_enter Tryd.func58, Tryd.ntmps58
  go_wp2_with fail
  refine (may_any _ _ (by omega)).mono ?_
  rintro e w' ⟨rfl, rfl⟩
  rw [HM.out]
  go_wp2_with fail
  refine (forms_any _).mono ?_
  rintro e w' ⟨rfl, rfl⟩
  unfold formsV
  go_wp2_with fail
  refine wp_loop_rounds 2 ?_
  rw [rounds_succ]
  go_wp2_with fail
  rw [rounds_succ]
  go_wp2_with fail
  refine wp_loop_rounds 3 ?_
  rw [rounds_succ]
  go_wp2_with fail
  rw [rounds_succ]
  go_wp2_with fail
  rw [rounds_succ]
  go_wp2_with fail
  go_ret2
  refine ⟨?_, by (repeat' (first | (with_reducible exact Below.refl _ _) | (with_reducible assumption) | (with_reducible refine below_drewN ?_ _) | (with_reducible refine Below.drew ?_) | (with_reducible refine Below.alloc ?_ ?_ _) | (with_reducible refine Below.setCell ?_ ?_ _) | (with_reducible exact Nat.le_refl _) | omega | (simp only [World.size_alloc, World.size_setCell, World.size_drew]; omega) | (simp; done) | (simp; omega)))⟩
  show Ending.returned (.tuple #[.string (strOfNums _), .int .i64 0]) = _
  refine congrArg (fun l => Ending.returned (.tuple #[.string (strOfNums l), .int .i64 0])) ?_
  rw [i64_and63 r (by omega) (by omega), i64_and63 (r / 64) (by omega) (by omega), i64_or128 _ (by omega) (by omega), i64_or128 _ (by omega) (by omega), i64_or224 _ (by omega) (by omega)]; congr 1 <;> (try congr 1) <;> (try congr 1) <;> omega

set_option maxRecDepth 100000 in
set_option maxHeartbeats 1000000 in
theorem putRef_4 (r : Int) (w : World) (h1 : 65536 ≤ r) (h2 : r ≤ 1114111) (hm : mayB r.toNat = true) :
    Calls Tryd.prog 63 #[.int .i64 r] w fun e w' => e = .returned (.tuple #[.string (strOfNums [240 + r / 262144, 128 + r / 4096 % 64, 128 + r / 64 % 64, 128 + r % 64]), .int .i64 0]) ∧ Below w.heap.size w w' := by
  have k1 := conv_1; have k2 := conv_2; have k3 := conv_3; have k4 := conv_4
  have h3 : r < 55296 ∨ 57343 < r := by unfold mayB at hm; have := of_decide_eq_true hm; omega
  clear hm
  rcases h3 with h3 | h3
  · exfalso; omega
  · go_enter Tryd.func63, Tryd.ntmps63
    go_wp2_with fail
    go_ret2
    exact ⟨rfl, by (repeat' (first | (with_reducible exact Below.refl _ _) | (with_reducible assumption) | (with_reducible refine below_drewN ?_ _) | (with_reducible refine Below.drew ?_) | (with_reducible refine Below.alloc ?_ ?_ _) | (with_reducible refine Below.setCell ?_ ?_ _) | (with_reducible exact Nat.le_refl _) | omega | (simp only [World.size_alloc, World.size_setCell, World.size_drew]; omega) | (simp; done) | (simp; omega)))⟩

set_option maxRecDepth 100000 in
set_option maxHeartbeats 1000000 in
theorem put_4 (r : Int) (w : World) (h1 : 65536 ≤ r) (h2 : r ≤ 1114111) (hm : mayB r.toNat = true) :
    Calls Tryd.prog 58 #[.int .i64 r] w fun e w' => e = .returned (.tuple #[.string (strOfNums [240 + r / 262144, 128 + r / 4096 % 64, 128 + r / 64 % 64, 128 + r % 64]), .int .i64 0]) ∧ Below w.heap.size w w' := by
  have k1 := conv_1; have k2 := conv_2; have k3 := conv_3; have k4 := conv_4
  have q1 := make_1; have q2 := make_2; have q3 := make_3; have q4 := make_4
  have HM := Lib.hid hm
  clear hm
  go_enter Tryd.func58, Tryd.ntmps58
  go_wp2_with fail
  refine (may_any _ _ (by omega)).mono ?_
  rintro e w' ⟨rfl, rfl⟩
  rw [HM.out]
  go_wp2_with fail
  refine (forms_any _).mono ?_
  rintro e w' ⟨rfl, rfl⟩
  unfold formsV
  go_wp2_with fail
  refine wp_loop_rounds 1 ?_
  rw [rounds_succ]
  go_wp2_with fail
  refine wp_loop_rounds 4 ?_
  rw [rounds_succ]
  go_wp2_with fail
  rw [rounds_succ]
  go_wp2_with fail
  rw [rounds_succ]
  go_wp2_with fail
  rw [rounds_succ]
  go_wp2_with fail
  go_ret2
  refine ⟨?_, by (repeat' (first | (with_reducible exact Below.refl _ _) | (with_reducible assumption) | (with_reducible refine below_drewN ?_ _) | (with_reducible refine Below.drew ?_) | (with_reducible refine Below.alloc ?_ ?_ _) | (with_reducible refine Below.setCell ?_ ?_ _) | (with_reducible exact Nat.le_refl _) | omega | (simp only [World.size_alloc, World.size_setCell, World.size_drew]; omega) | (simp; done) | (simp; omega)))⟩
  show Ending.returned (.tuple #[.string (strOfNums _), .int .i64 0]) = _
  refine congrArg (fun l => Ending.returned (.tuple #[.string (strOfNums l), .int .i64 0])) ?_
  rw [i64_and63 r (by omega) (by omega), i64_and63 (r / 64) (by omega) (by omega), i64_and63 (r / 64 / 64) (by omega) (by omega), i64_or128 _ (by omega) (by omega), i64_or128 _ (by omega) (by omega), i64_or128 _ (by omega) (by omega), i64_or240 _ (by omega) (by omega)]; congr 1 <;> (try congr 1) <;> (try congr 1) <;> (try congr 1) <;> omega

set_option maxRecDepth 100000 in
set_option maxHeartbeats 1000000 in
theorem put_no (r : Int) (w : World) (h0 : 0 ≤ r) (hm : mayB r.toNat = false) :
    Calls Tryd.prog 58 #[.int .i64 r] w fun e w' => e = .returned (.tuple #[.string ⟨#[]⟩, .int .i64 200]) ∧ Below w.heap.size w w' := by
  have HM := Lib.hid hm
  clear hm
  go_enter Tryd.func58, Tryd.ntmps58
  go_wp2_with fail
  refine (may_any _ _ (by omega)).mono ?_
  rintro e w' ⟨rfl, rfl⟩
  rw [HM.out]
  go_wp2_with fail
  go_ret2
  exact ⟨rfl, by (repeat' (first | (with_reducible exact Below.refl _ _) | (with_reducible assumption) | (with_reducible refine below_drewN ?_ _) | (with_reducible refine Below.drew ?_) | (with_reducible refine Below.alloc ?_ ?_ _) | (with_reducible refine Below.setCell ?_ ?_ _) | (with_reducible exact Nat.le_refl _) | omega | (simp only [World.size_alloc, World.size_setCell, World.size_drew]; omega) | (simp; done) | (simp; omega)))⟩

theorem put_yes (r : Int) (w : World) (h0 : 0 ≤ r) (hm : mayB r.toNat = true) :
    Calls Tryd.prog 58 #[.int .i64 r] w fun e w' => e = .returned (.tuple #[.string (putS r), .int .i64 0]) ∧ Below w.heap.size w w' := by
  have hle : r ≤ 1114111 := by unfold mayB at hm; have := of_decide_eq_true hm; omega
  unfold putS
  by_cases c1 : r < 128
  · rw [if_pos c1]; exact put_1 r w h0 c1 hm
  · rw [if_neg c1]
    by_cases c2 : r < 2048
    · rw [if_pos c2]; exact put_2 r w (by omega) c2 hm
    · rw [if_neg c2]
      by_cases c3 : r < 65536
      · rw [if_pos c3]; exact put_3 r w (by omega) c3 hm
      · rw [if_neg c3]; exact put_4 r w (by omega) hle hm

set_option maxRecDepth 100000 in
set_option maxHeartbeats 1000000 in
theorem putRef_no (r : Int) (w : World) (h0 : 0 ≤ r) (hm : mayB r.toNat = false) :
    Calls Tryd.prog 63 #[.int .i64 r] w fun e w' => e = .returned (.tuple #[.string ⟨#[]⟩, .int .i64 200]) ∧ Below w.heap.size w w' := by
  have h3 : 1114111 < r ∨ (r ≤ 1114111 ∧ 55296 ≤ r ∧ r ≤ 57343) := by unfold mayB at hm; have := of_decide_eq_false hm; omega
  clear hm
  rcases h3 with h3 | ⟨h3, h4, h5⟩
  · go_enter Tryd.func63, Tryd.ntmps63
    go_wp2_with fail
    go_ret2
    exact ⟨rfl, by (repeat' (first | (with_reducible exact Below.refl _ _) | (with_reducible assumption) | (with_reducible refine below_drewN ?_ _) | (with_reducible refine Below.drew ?_) | (with_reducible refine Below.alloc ?_ ?_ _) | (with_reducible refine Below.setCell ?_ ?_ _) | (with_reducible exact Nat.le_refl _) | omega | (simp only [World.size_alloc, World.size_setCell, World.size_drew]; omega) | (simp; done) | (simp; omega)))⟩
  · go_enter Tryd.func63, Tryd.ntmps63
    go_wp2_with fail
    go_ret2
    exact ⟨rfl, by (repeat' (first | (with_reducible exact Below.refl _ _) | (with_reducible assumption) | (with_reducible refine below_drewN ?_ _) | (with_reducible refine Below.drew ?_) | (with_reducible refine Below.alloc ?_ ?_ _) | (with_reducible refine Below.setCell ?_ ?_ _) | (with_reducible exact Nat.le_refl _) | omega | (simp only [World.size_alloc, World.size_setCell, World.size_drew]; omega) | (simp; done) | (simp; omega)))⟩

set_option maxHeartbeats 1000000 in
theorem putRef_neg (r : Int) (w : World) (h0 : r < 0) :
    Calls Tryd.prog 63 #[.int .i64 r] w fun e w' => e = .returned (.tuple #[.string ⟨#[]⟩, .int .i64 200]) ∧ Below w.heap.size w w' := by
  go_enter Tryd.func63, Tryd.ntmps63
  go_wp2_with fail
  go_ret2
  exact ⟨rfl, by (repeat' (first | (with_reducible exact Below.refl _ _) | (with_reducible assumption) | (with_reducible refine below_drewN ?_ _) | (with_reducible refine Below.drew ?_) | (with_reducible refine Below.alloc ?_ ?_ _) | (with_reducible refine Below.setCell ?_ ?_ _) | (with_reducible exact Nat.le_refl _) | omega | (simp only [World.size_alloc, World.size_setCell, World.size_drew]; omega) | (simp; done) | (simp; omega)))⟩

theorem putRef_yes (r : Int) (w : World) (h0 : 0 ≤ r) (hm : mayB r.toNat = true) :
    Calls Tryd.prog 63 #[.int .i64 r] w fun e w' => e = .returned (.tuple #[.string (putS r), .int .i64 0]) ∧ Below w.heap.size w w' := by
  have hle : r ≤ 1114111 := by unfold mayB at hm; have := of_decide_eq_true hm; omega
  unfold putS
  by_cases c1 : r < 128
  · rw [if_pos c1]; exact putRef_1 r w h0 c1 hm
  · rw [if_neg c1]
    by_cases c2 : r < 2048
    · rw [if_pos c2]; exact putRef_2 r w (by omega) c2 hm
    · rw [if_neg c2]
      by_cases c3 : r < 65536
      · rw [if_pos c3]; exact putRef_3 r w (by omega) c3 hm
      · rw [if_neg c3]; exact putRef_4 r w (by omega) hle hm

end Go.Proofs.YtbhnfehpbbibbaaDoor

namespace Go.Proofs.YtbhnfehpbbibbaaDoor
open Go.RowKit

def isWh (c : Nat) : Bool := c == 32 || c == 9 || c == 10 || c == 13
def whF (s : ByteArray) : Nat → Nat → Nat
  | 0, i => i
  | k + 1, i => if isWh (bt s i) then whF s k (i + 1) else i
/-- the place behind blanks -/
def whS (s : ByteArray) (i : Nat) : Nat := whF s (s.size - i) i
theorem whS_step {s : ByteArray} {i : Nat} (hi : i < s.size) (h : isWh (bt s i) = true) : whS s i = whS s (i + 1) := by
  unfold whS; rw [show s.size - i = (s.size - (i + 1)) + 1 from by omega, whF, if_pos h]
theorem whS_stop {s : ByteArray} {i : Nat} (h : i < s.size → isWh (bt s i) = false) : whS s i = i := by
  unfold whS
  by_cases hi : i < s.size
  · rw [show s.size - i = (s.size - (i + 1)) + 1 from by omega, whF, h hi]; rfl
  · rw [show s.size - i = 0 from by omega]; rfl
theorem whF_le (s : ByteArray) : ∀ k i, i ≤ whF s k i ∧ whF s k i ≤ i + k
  | 0, i => ⟨Nat.le_refl _, Nat.le_refl _⟩
  | k + 1, i => by
    unfold whF; split
    · have := whF_le s k (i + 1); omega
    · omega
theorem whS_le (s : ByteArray) (i : Nat) (h : i ≤ s.size) : i ≤ whS s i ∧ whS s i ≤ s.size := by
  have := whF_le s (s.size - i) i; unfold whS; omega

/-- do the first n bytes of a word stand here? -/
def wordN (s : ByteArray) (i : Nat) (u : ByteArray) : Nat → Bool
  | 0 => true
  | n + 1 => wordN s i u n && (decide (i + n < s.size) && bt s (i + n) == bt u n)
def wordB (s : ByteArray) (i : Nat) (u : ByteArray) : Bool := wordN s i u u.size
theorem wordN_mono {s u : ByteArray} {i : Nat} : ∀ {n m : Nat}, n ≤ m → wordN s i u m = true → wordN s i u n = true
  | n, 0, h, hm => by rw [Nat.le_zero.1 h]; rfl
  | n, m + 1, h, hm => by
    by_cases e : n = m + 1
    · rw [e]; exact hm
    · exact wordN_mono (m := m) (by omega) (by simp [wordN] at hm; exact hm.1)
theorem wordN_size {s u : ByteArray} {i : Nat} : ∀ {n : Nat}, wordN s i u n = true → i ≤ s.size → i + n ≤ s.size
  | 0, _, h => h
  | n + 1, hm, h => by simp [wordN] at hm; omega

def hexV (c : Nat) : Option Nat := if 48 ≤ c ∧ c ≤ 57 then some (c - 48) else if 97 ≤ c ∧ c ≤ 102 then some (c - 87) else if 65 ≤ c ∧ c ≤ 70 then some (c - 55) else none
/-- n digits from place i on, behind the value x -/
def hexF (s : ByteArray) : Nat → Nat → Nat → Option Nat
  | 0, _, x => some x
  | n + 1, i, x => match hexV (bt s i) with | none => none | some d => hexF s n (i + 1) (16 * x + d)
def hexS (s : ByteArray) (i : Nat) : Option Nat := hexF s 4 i 0

/-- one byte as a text -/
def oneB (c : Nat) : ByteArray := strOfNums [(c : Int)]
/-- what stands behind a stroke, from place i on: the text that it means and the place behind it -/
def escS (s : ByteArray) (i : Nat) : Option (ByteArray × Nat) :=
  let c := bt s i
  if c = 34 ∨ c = 92 ∨ c = 47 then some (oneB c, i + 1)
  else if c = 98 then some (⟨#[8]⟩, i + 1)
  else if c = 102 then some (⟨#[12]⟩, i + 1)
  else if c = 110 then some (⟨#[10]⟩, i + 1)
  else if c = 114 then some (⟨#[13]⟩, i + 1)
  else if c = 116 then some (⟨#[9]⟩, i + 1)
  else if c = 117 then
    match hexS s (i + 1) with
    | none => none
    | some r =>
      if 55296 ≤ r ∧ r < 56320 then
        if wordB s (i + 5) ⟨#[92, 117]⟩ then
          match hexS s (i + 7) with
          | none => none
          | some low => if 56320 ≤ low ∧ low ≤ 57343 then some (putS ((65536 + (r - 55296) * 1024 + (low - 56320) : Nat) : Int), i + 11) else none
        else none
      else if mayB r then some (putS (r : Int), i + 5) else none
  else none

/-- a text from behind its first mark on; acc: what has been read -/
def txtF (s : ByteArray) : Nat → Nat → List UInt8 → Option (ByteArray × Nat)
  | 0, _, _ => none
  | k + 1, i, acc =>
    if bt s i = 34 then some (⟨acc.toArray⟩, i + 1)
    else if bt s i = 92 then
      match escS s (i + 1) with
      | none => none
      | some (e, j) => txtF s k j (acc ++ e.data.toList)
    else if (runeS s i).2 = 0 ∨ (runeS s i).1 < 32 then none
    else txtF s k (i + (runeS s i).2) (acc ++ (s.extract i (i + (runeS s i).2)).data.toList)
def txtS (s : ByteArray) (i : Nat) : Option (ByteArray × Nat) := txtF s (s.size + 1 - i) i []

def isDig (c : Nat) : Bool := decide (48 ≤ c ∧ c ≤ 57)
/-- digits: the value and the place behind them -/
def digF (s : ByteArray) : Nat → Nat → Nat → Nat × Nat
  | 0, i, x => (x, i)
  | k + 1, i, x => if isDig (bt s i) then digF s k (i + 1) (10 * x + (bt s i - 48)) else (x, i)
def digS (s : ByteArray) (i x : Nat) : Nat × Nat := digF s (s.size - i) i x
def numS (s : ByteArray) (i : Nat) : Option (Int × Nat) :=
  let f := if bt s i = 45 then i + 1 else i
  let d := digS s f 0
  if d.2 = f ∨ (f + 1 < d.2 ∧ bt s f = 48) ∨ (bt s i = 45 ∧ d.1 = 0) then none
  else if bt s i = 45 then (if d.1 ≤ 9223372036854775808 then some (-(d.1 : Int), d.2) else none)
  else if d.1 < 9223372036854775808 then some ((d.1 : Int), d.2) else none

instance decBA : DecidableEq ByteArray := fun a b => decidable_of_iff (a.data = b.data) ⟨fun h => by cases a; cases b; simp only at h; rw [h], fun h => by rw [h]⟩

/-- is a text among these? -/
def memB (k : ByteArray) : List ByteArray → Bool
  | [] => false
  | x :: l => decide (x = k) || memB k l
theorem memB_app (k : ByteArray) : ∀ a b : List ByteArray, memB k (a ++ b) = (memB k a || memB k b)
  | [], b => rfl
  | x :: a, b => by simp only [List.cons_append, memB, memB_app k a b, Bool.or_assoc]

inductive J where
  | mk (kind : Int) (b : Bool) (n : Int) (s : ByteArray) (l : List J) (keys : List ByteArray)
def J.null : J := .mk 0 false 0 ⟨#[]⟩ [] []

/-- members of a list or an object; val: a value from a place on -/
def seqS (s : ByteArray) (val : Nat → Except Int (J × Nat)) (obj : Bool) : Nat → Bool → Nat → List ByteArray → List J → Except Int (J × Nat)
  | 0, _, _, _, _ => .error 300
  | k + 1, first, i, keys, l =>
    if bt s i = (if obj then 125 else 93) then .ok (.mk (if obj then 5 else 4) false 0 ⟨#[]⟩ l keys, i + 1)
    else if !first && bt s i != 44 then .error 300
    else
      let i1 := if first then i else whS s (i + 1)
      if obj then
        if bt s i1 = 34 then
          match txtS s (i1 + 1) with
          | none => .error 300
          | some (key, i2) =>
            if memB key keys then .error 300
            else if bt s (whS s i2) = 58 then
              match val (whS s (whS s i2 + 1)) with
              | .error e => .error e
              | .ok (j, i3) => seqS s val obj k false (whS s i3) (keys ++ [key]) (l ++ [j])
            else .error 300
        else .error 300
      else
        match val i1 with
        | .error e => .error e
        | .ok (j, i3) => seqS s val obj k false (whS s i3) keys (l ++ [j])
/-- a value; lv: how many lists and objects may still be opened -/
def valS (s : ByteArray) : Nat → Nat → Except Int (J × Nat)
  | lv, i =>
    if bt s i = 110 then (if wordB s i ⟨#[110, 117, 108, 108]⟩ then .ok (.null, i + 4) else .error 300)
    else if bt s i = 116 then (if wordB s i ⟨#[116, 114, 117, 101]⟩ then .ok (.mk 1 true 0 ⟨#[]⟩ [] [], i + 4) else .error 300)
    else if bt s i = 102 then (if wordB s i ⟨#[102, 97, 108, 115, 101]⟩ then .ok (.mk 1 false 0 ⟨#[]⟩ [] [], i + 5) else .error 300)
    else if bt s i = 34 then (match txtS s (i + 1) with | none => .error 300 | some (t, j) => .ok (.mk 3 false 0 t [] [], j))
    else if bt s i = 91 ∨ bt s i = 123 then
      match lv with
      | 0 => .error 301
      | lv + 1 => seqS s (valS s lv) (decide (bt s i = 123)) (s.size + 1) true (whS s (i + 1)) [] []
    else match numS s i with | none => .error 300 | some (n, j) => .ok (.mk 2 false n ⟨#[]⟩ [] [], j)
/-- P3.1 -/
def parseS (s : ByteArray) : Except Int J :=
  if 65536 < s.size then .error 302
  else match valS s 16 (whS s 0) with
    | .error e => .error e
    | .ok (j, i) => if whS s i = s.size then .ok j else .error 300

end Go.Proofs.YtbhnfehpbbibbaaDoor

namespace Go.Proofs.YtbhnfehpbbibbaaDoor
open Go.RowKit

/-- the parser at block g: its text, its place -/
def PS (w : World) (g : Nat) (s : ByteArray) (i : Nat) : Prop := w.heap[g]? = some (.cells #[.string s, .int .i64 i] 46 (0, 0))

theorem PS.c0 {w g s i} (h : PS w g s i) : w.cell? ⟨g, 0, none⟩ = some (.string s) := by simp [World.cell?, PS] at *; rw [h]; rfl
theorem PS.c1 {w g s i} (h : PS w g s i) : w.cell? ⟨g, 1, none⟩ = some (.int .i64 i) := by simp [World.cell?, PS] at *; rw [h]; rfl
theorem PS.f1 {w g s i} (h : PS w g s i) : w.frozen? ⟨g, 1, none⟩ = false := by simp [World.frozen?, PS] at *; rw [h]; simp
theorem PS.lt {w g s i} (h : PS w g s i) : g < w.heap.size := by
  unfold PS at h; exact (Array.getElem?_eq_some_iff.1 h).1
theorem PS.drewN {w g s i} (h : PS w g s i) (n : Nat) : PS (w.drewN n) g s i := h
theorem PS.set {w g s i} (h : PS w g s i) (j : Nat) (v : Value) (hv : v = .int .i64 j) : PS (w.setCell ⟨g, 1, none⟩ v) g s j := by
  subst hv
  unfold PS at *
  simp only [World.setCell, Array.getElem?_modify, h, if_true, Option.map_some]
  rfl
theorem PS.below {w w' g s i} (h : PS w g s i) (hb : Below w.heap.size w w') : PS w' g s i := (hb.block g h.lt).trans h

def fault (c : Int) : List PanicEntry := [{ v := .iface 65 (.agg #[.int .i64 c]), recovered := false }]

set_option maxHeartbeats 400000 in
theorem bad_any (w : World) :
    Calls Tryd.prog 17 #[] w fun e w' => e = .panicked (fault 300) ∧ w = w' := by
  go_enter Tryd.func17, Tryd.ntmps17
  go_wp2
  exact ⟨rfl, rfl, rfl⟩

set_option maxHeartbeats 400000 in
theorem next_any (g : Nat) (s : ByteArray) (i : Nat) (w : World) (hs : s.size ≤ maxLen) (h : PS w g s i) :
    Calls Tryd.prog 26 #[.pointer (some ⟨g, 0, none⟩)] w fun e w' => e = .returned (.int .u8 (bt s i)) ∧ ∃ n, w' = w.drewN n := by
  unfold maxLen at hs
  have h0 := h.c0
  have h1 := h.c1
  clear h
  by_cases hi : i < s.size
  · have hd : decide ((s.size : Int) ≤ i) = false := by simp; omega
    have He := Lib.hid (bt_at hi)
    go_enter Tryd.func26, Tryd.ntmps26
    go_wp2
    go_quiet (fail)
    go_wp2
    go_quiet (fail)
    go_wp2
    go_ret
    exact ⟨by rw [He.out]; rfl, _, (World.drewN_drewN _ _ _)⟩
  · have hd : decide ((s.size : Int) ≤ i) = true := by simp; omega
    have He := Lib.hid (bt_out (s := s) (i := i) (by omega))
    go_enter Tryd.func26, Tryd.ntmps26
    go_wp2
    go_quiet (fail)
    go_wp2
    go_ret
    exact ⟨by rw [He.out]; rfl, _, rfl⟩

/-- e is a panic with the error c, or a return with the result v and the parser at place i -/
structure Took (g : Nat) (s : ByteArray) (w : World) (v : Value) (i : Nat) (e : Ending) (w' : World) : Prop where
  val : e = .returned v
  ps : PS w' g s i
  but : But g w w'
structure Threw (g : Nat) (c : Int) (w : World) (e : Ending) (w' : World) : Prop where
  val : e = .panicked (fault c)
  but : But g w w'

set_option maxHeartbeats 400000 in
theorem take_ok (g : Nat) (s : ByteArray) (i : Nat) (c : Int) (w : World) (hs : s.size ≤ 140737488351232) (h : PS w g s i) (hi : i < s.size) (hc : (bt s i : Int) = c) :
    Calls Tryd.prog 47 #[.pointer (some ⟨g, 0, none⟩), .int .u8 c] w (Took g s w (.tuple #[]) (i + 1)) := by
  have h0 := h.c0
  have h1 := h.c1
  have h2 := h.f1
  have HP := Lib.hid h
  clear h
  have hd : decide ((s.size : Int) ≤ i) = false := by simp; omega
  have e1 : (((s[i]'hi).toNat : Int) != c) = false := by rw [← bt_at hi]; simp [hc]
  clear hc
  go_enter Tryd.func47, Tryd.ntmps47
  go_wp2
  go_quiet (fail)
  go_wp2
  go_end0
  exact ⟨rfl, (HP.out.drewN _).set _ _ (by go_num), by (repeat' (first | (with_reducible exact But.refl _ _) | (with_reducible assumption) | (with_reducible refine But.drewN ?_ _) | (with_reducible refine But.drew ?_) | (with_reducible refine But.alloc ?_ _) | (with_reducible refine But.setOwn ?_ _ _)))⟩

set_option maxHeartbeats 400000 in
theorem take_err (g : Nat) (s : ByteArray) (i : Nat) (c : Int) (w : World) (hs : s.size ≤ 140737488351232) (h : PS w g s i) (hc : ¬ (i < s.size ∧ (bt s i : Int) = c)) :
    Calls Tryd.prog 47 #[.pointer (some ⟨g, 0, none⟩), .int .u8 c] w (Threw g 300 w) := by
  have h0 := h.c0
  have h1 := h.c1
  have h2 := h.f1
  clear h
  by_cases hi : i < s.size
  · have hd : decide ((s.size : Int) ≤ i) = false := by simp; omega
    have e1 : (((s[i]'hi).toNat : Int) != c) = true := by rw [← bt_at hi, bne_iff_ne]; exact fun h => hc ⟨hi, h⟩
    clear hc
    go_enter Tryd.func47, Tryd.ntmps47
    go_wp2_with fail
    go_quiet (fail)
    go_wp2_with fail
    refine (bad_any _).mono ?_
    rintro e w' ⟨rfl, rfl⟩
    exact ⟨rfl, rfl, by (repeat' (first | (with_reducible exact But.refl _ _) | (with_reducible assumption) | (with_reducible refine But.drewN ?_ _) | (with_reducible refine But.drew ?_) | (with_reducible refine But.alloc ?_ _) | (with_reducible refine But.setOwn ?_ _ _)))⟩
  · have hd : decide ((s.size : Int) ≤ i) = true := by simp; omega
    clear hc
    go_enter Tryd.func47, Tryd.ntmps47
    go_wp2_with fail
    go_quiet (fail)
    go_wp2_with fail
    refine (bad_any _).mono ?_
    rintro e w' ⟨rfl, rfl⟩
    exact ⟨rfl, rfl, by (repeat' (first | (with_reducible exact But.refl _ _) | (with_reducible assumption) | (with_reducible refine But.drewN ?_ _) | (with_reducible refine But.drew ?_) | (with_reducible refine But.alloc ?_ _) | (with_reducible refine But.setOwn ?_ _ _)))⟩

set_option maxHeartbeats 1600000 in
theorem white_any (g : Nat) (s : ByteArray) (i : Nat) (w : World) (hs : s.size ≤ 140737488351232) (hi : i ≤ s.size) (h : PS w g s i) :
    Calls Tryd.prog 15 #[.pointer (some ⟨g, 0, none⟩)] w (Took g s w (.tuple #[]) (whS s i)) := by
  have HP := Lib.hid h
  clear h
  go_enter Tryd.func15, Tryd.ntmps15
  go_wp2_with fail
  go_loopg [] (s.size - i) (fun n wr => ∃ k : Nat, k ≤ s.size ∧ n = s.size - k ∧ Hid (PS wr g s k ∧ But g w wr ∧ whS s i = whS s k))
  case atStart => exact ⟨i, hi, rfl, HP.out, But.refl _ _, rfl⟩
  case round =>
    obtain ⟨k, hk, hn, H⟩ := hrel
    have h0 := H.out.1.c0
    have h1 := H.out.1.c1
    have h2 := H.out.1.f1
    have HN := Lib.hid hn
    clear hn
    by_cases hlt : k < s.size
    · have hd : decide ((k : Int) < s.size) = true := by simp; omega
      have HB := Lib.hid (bt_at hlt)
      by_cases hw : isWh (bt s k) = true
      · have HW : Hid (whS s i = whS s (k + 1)) := H.out.2.2.trans (whS_step hlt hw)
        have hc : (s[k]'hlt).toNat = 32 ∨ (s[k]'hlt).toNat = 9 ∨ (s[k]'hlt).toNat = 10 ∨ (s[k]'hlt).toNat = 13 := by
          rw [← HB.out]; simp [isWh] at hw; omega
        clear hw
        rcases hc with hc | hc | hc | hc
        all_goals
          have q1 := congrArg (fun n : Nat => ((n : Int) == 32)) hc
          have q2 := congrArg (fun n : Nat => ((n : Int) == 9)) hc
          have q3 := congrArg (fun n : Nat => ((n : Int) == 10)) hc
          have q4 := congrArg (fun n : Nat => ((n : Int) == 13)) hc
          clear hc
          simp at q1 q2 q3 q4
          go_wp2
          go_quiet (fail)
          go_wp2
          go_roundg (s.size - (k + 1))
          case measure => have := HN.out; omega
          case rel => exact ⟨k + 1, by omega, rfl, (H.out.1.drewN _).set _ _ (by go_num), (by have := H.out.2.1; (repeat' (first | (with_reducible exact But.refl _ _) | (with_reducible assumption) | (with_reducible refine But.drewN ?_ _) | (with_reducible refine But.drew ?_) | (with_reducible refine But.alloc ?_ _) | (with_reducible refine But.setOwn ?_ _ _)))), HW.out⟩
      · have hc : ¬ (s[k]'hlt).toNat = 32 ∧ ¬ (s[k]'hlt).toNat = 9 ∧ ¬ (s[k]'hlt).toNat = 10 ∧ ¬ (s[k]'hlt).toNat = 13 := by
          rw [← HB.out]; simp [isWh] at hw; omega
        have HW : Hid (whS s i = k) := H.out.2.2.trans (whS_stop (fun _ => by simpa using hw))
        obtain ⟨q1, q2, q3, q4⟩ := hc
        have r1 : (((s[k]'hlt).toNat : Int) == 32) = false := beq_eq_false_iff_ne.2 (by omega)
        have r2 : (((s[k]'hlt).toNat : Int) == 9) = false := beq_eq_false_iff_ne.2 (by omega)
        have r3 : (((s[k]'hlt).toNat : Int) == 10) = false := beq_eq_false_iff_ne.2 (by omega)
        have r4 : (((s[k]'hlt).toNat : Int) == 13) = false := beq_eq_false_iff_ne.2 (by omega)
        clear q1 q2 q3 q4 hw
        go_wp2
        go_quiet (fail)
        go_wp2
        go_end0
        exact ⟨rfl, by rw [HW.out]; exact H.out.1.drewN _, (by have := H.out.2.1; (repeat' (first | (with_reducible exact But.refl _ _) | (with_reducible assumption) | (with_reducible refine But.drewN ?_ _) | (with_reducible refine But.drew ?_) | (with_reducible refine But.alloc ?_ _) | (with_reducible refine But.setOwn ?_ _ _))))⟩
    · have hd : decide ((k : Int) < s.size) = false := by simp; omega
      have HW : Hid (whS s i = k) := H.out.2.2.trans (whS_stop (fun h => absurd h hlt))
      go_wp2
      go_quiet (fail)
      go_wp2
      go_end0
      exact ⟨rfl, by rw [HW.out]; exact H.out.1.drewN _, (by have := H.out.2.1; (repeat' (first | (with_reducible exact But.refl _ _) | (with_reducible assumption) | (with_reducible refine But.drewN ?_ _) | (with_reducible refine But.drew ?_) | (with_reducible refine But.alloc ?_ _) | (with_reducible refine But.setOwn ?_ _ _))))⟩

end Go.Proofs.YtbhnfehpbbibbaaDoor

namespace Go.Proofs.YtbhnfehpbbibbaaDoor
open Go.RowKit

theorem wordN_succ {s u : ByteArray} {i n : Nat} (h : wordN s i u n = true) (h2 : i + n < s.size ∧ bt s (i + n) = bt u n) : wordN s i u (n + 1) = true := by
  simp [wordN, h, h2.1, h2.2]
theorem wordN_bad {s u : ByteArray} {i n : Nat} (h2 : ¬ (i + n < s.size ∧ bt s (i + n) = bt u n)) : wordN s i u (n + 1) = false := by
  cases h : wordN s i u (n + 1) with
  | false => rfl
  | true => simp [wordN] at h; exact absurd h.2 h2

set_option maxHeartbeats 800000 in
theorem word_ok (g : Nat) (s u : ByteArray) (i : Nat) (w : World) (hs : s.size ≤ 140737488351232) (hu : u.size ≤ 140737488351232) (h : PS w g s i) (hw : wordB s i u = true) :
    Calls Tryd.prog 27 #[.pointer (some ⟨g, 0, none⟩), .string u] w (Took g s w (.tuple #[]) (i + u.size)) := by
  have HP := Lib.hid h
  have HW : Hid (wordN s i u u.size = true) := hw
  clear h hw
  go_enter Tryd.func27, Tryd.ntmps27
  go_wp2_with fail
  go_loopw [7] (fun v wr => ∃ k : Nat, v = .int .i64 k ∧ k ≤ u.size ∧ Hid (PS wr g s (i + k) ∧ But g w wr)) (fun v _ => u.size - (intOf v).toNat)
  case atStart => exact ⟨0, rfl, by omega, HP.out, But.refl _ _⟩
  case round =>
    obtain ⟨k, rfl, hk, H⟩ := hrel
    by_cases hlt : k < u.size
    · have hm : wordN s i u (k + 1) = true := wordN_mono (by omega) HW.out
      have hq : i + k < s.size ∧ bt s (i + k) = bt u k := by simp [wordN] at hm; exact hm.2
      have HQ := Lib.hid hq
      clear hm hq
      go_wp2_with fail
      refine (take_ok g s (i + k) _ _ hs H.out.1 HQ.out.1 (by rw [HQ.out.2, bt_at hlt])).mono ?_
      rintro e w' ⟨rfl, hp, hb⟩
      have H2 : Hid (PS w' g s (i + (k + 1)) ∧ But g w w') := ⟨hp, H.out.2.trans hb⟩
      clear hp hb
      go_wp2_with fail
      go_roundw
      case rel => exact ⟨k + 1, by go_num, by omega, H2⟩
      case measure => simp [intOf]; omega
    · obtain rfl : k = u.size := by omega
      go_wp2_with fail
      go_end0
      exact ⟨rfl, H.out.1, H.out.2⟩

set_option maxHeartbeats 800000 in
theorem word_err (g : Nat) (s u : ByteArray) (i : Nat) (w : World) (hs : s.size ≤ 140737488351232) (hu : u.size ≤ 140737488351232) (h : PS w g s i) (hw : wordB s i u = false) :
    Calls Tryd.prog 27 #[.pointer (some ⟨g, 0, none⟩), .string u] w (Threw g 300 w) := by
  have HP := Lib.hid h
  have HW : Hid (wordN s i u u.size = false) := hw
  clear h hw
  go_enter Tryd.func27, Tryd.ntmps27
  go_wp2_with fail
  go_loopw [7] (fun v wr => ∃ k : Nat, v = .int .i64 k ∧ k ≤ u.size ∧ Hid (PS wr g s (i + k) ∧ But g w wr ∧ wordN s i u k = true)) (fun v _ => u.size - (intOf v).toNat)
  case atStart => exact ⟨0, rfl, by omega, HP.out, But.refl _ _, rfl⟩
  case round =>
    obtain ⟨k, rfl, hk, H⟩ := hrel
    by_cases hlt : k < u.size
    · by_cases hq : i + k < s.size ∧ bt s (i + k) = bt u k
      · have HQ := Lib.hid hq
        clear hq
        go_wp2_with fail
        refine (take_ok g s (i + k) _ _ hs H.out.1 HQ.out.1 (by rw [HQ.out.2, bt_at hlt])).mono ?_
        rintro e w' ⟨rfl, hp, hb⟩
        have H2 : Hid (PS w' g s (i + (k + 1)) ∧ But g w w' ∧ wordN s i u (k + 1) = true) := ⟨hp, H.out.2.1.trans hb, wordN_succ H.out.2.2 HQ.out⟩
        clear hp hb
        go_wp2_with fail
        go_roundw
        case rel => exact ⟨k + 1, by go_num, by omega, H2⟩
        case measure => simp [intOf]; omega
      · have HQ := Lib.hid hq
        clear hq
        go_wp2_with fail
        refine (take_err g s (i + k) _ _ hs H.out.1 (by rw [← bt_at hlt]; intro h; exact HQ.out ⟨h.1, by omega⟩)).mono ?_
        rintro e w' ⟨rfl, hb⟩
        exact ⟨rfl, rfl, H.out.2.1.trans hb⟩
    · obtain rfl : k = u.size := by omega
      exact absurd H.out.2.2 (by rw [HW.out]; decide)

end Go.Proofs.YtbhnfehpbbibbaaDoor
