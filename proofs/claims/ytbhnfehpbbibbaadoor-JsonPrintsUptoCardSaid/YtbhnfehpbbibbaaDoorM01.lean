/- The small laws that the other texts of this claim lean on: bytes of a text, what stays of a world behind a call. They hold for every world; no condition. Package utf's runes: what First, Valid, Rune and Put come to, for every text and place. Package utf's Rune: for every text and every place in it the rune and how many bytes it has; a text is no longer than the model lets one be. -/
import Derived.Handy
import Derived.WalkSpells
import Derived.WalkLawsBesides
import Derived.BigQuiet
import Derived.Lib.Hide
import Derived.Deep.QuietTactic
import Derived.Laws.BitsAllLaws
import Derived.Deep.LoopGhost
import Derived.Test.YtbhnfehpbbibbaaDoorProg

namespace Go.Proofs.YtbhnfehpbbibbaaDoor
open Go.RowKit

/-- byte i of a text, as a number; 0 behind its end -/
def bt (s : ByteArray) (i : Nat) : Nat := if h : i < s.size then (s[i]'h).toNat else 0

theorem bt_at {s : ByteArray} {i : Nat} (h : i < s.size) : bt s i = (s[i]'h).toNat := by simp [bt, h]
theorem bt_out {s : ByteArray} {i : Nat} (h : s.size ≤ i) : bt s i = 0 := by simp [bt]; omega
theorem bt_lt (s : ByteArray) (i : Nat) : bt s i < 256 := by
  unfold bt; split
  · exact UInt8.toNat_lt _
  · omega

/-- All but block g is as it was, of what was there. -/
structure But (g : Nat) (w w' : World) : Prop where
  os : w'.os = w.os
  tape : w'.tape = w.tape
  output : w'.output = w.output
  size : w.heap.size ≤ w'.heap.size
  block : ∀ k, k < w.heap.size → k ≠ g → w'.heap[k]? = w.heap[k]?

theorem But.refl (g : Nat) (w : World) : But g w w := ⟨rfl, rfl, rfl, Nat.le_refl _, fun _ _ _ => rfl⟩
theorem But.trans {g : Nat} {a b c : World} (h : But g a b) (k : But g b c) : But g a c :=
  ⟨k.os.trans h.os, k.tape.trans h.tape, k.output.trans h.output, Nat.le_trans h.size k.size, fun i hi hg => (k.block i (Nat.lt_of_lt_of_le hi h.size) hg).trans (h.block i hi hg)⟩
theorem But.drew {g : Nat} {a w : World} (h : But g a w) : But g a w.drew := ⟨h.os, h.tape, h.output, h.size, h.block⟩
theorem But.drewN {g : Nat} {a w : World} (h : But g a w) (n : Nat) : But g a (w.drewN n) := ⟨h.os, h.tape, h.output, h.size, h.block⟩
theorem But.below {g : Nat} {a b : World} (h : Below a.heap.size a b) : But g a b := ⟨h.os, h.tape, h.output, h.size, fun k hk _ => h.block k hk⟩
theorem But.alloc {g : Nat} {a w : World} (h : But g a w) (o : Obj) : But g a (w.alloc o) :=
  h.trans (.below ((Below.refl _ _).alloc (Nat.le_refl _) o))
theorem But.setOwn {g : Nat} {a w : World} (h : But g a w) (o : Nat) (v : Value) : But g a (w.setCell ⟨g, o, none⟩ v) :=
  h.trans ⟨rfl, rfl, rfl, by simp [World.setCell], fun k _ hg => Below.heap_setCell _ _ _ _ hg⟩
theorem But.setNew {g : Nat} {a w : World} (h : But g a w) {p : Addr} (hp : a.heap.size ≤ p.block) (v : Value) : But g a (w.setCell p v) :=
  ⟨h.os, h.tape, h.output, by simpa [World.setCell] using h.size, fun k hk hg => (Below.heap_setCell _ _ _ _ (by omega)).trans (h.block k hk hg)⟩
theorem But.heap {g : Nat} {a w : World} (h : But g a w) {k : Nat} (hk : k < a.heap.size) (hg : k ≠ g) : w.heap[k]? = a.heap[k]? := h.block k hk hg
theorem But.toBelow {g : Nat} {a w : World} (h : But g a w) {B : Nat} (hB : B ≤ g) (hs : B ≤ a.heap.size) : Below B a w := ⟨h.os, h.tape, h.output, h.size, fun k hk => h.block k (by omega) (by omega)⟩

theorem below_drewN {B : Nat} {a w : World} (h : Below B a w) (n : Nat) : Below B a (w.drewN n) := ⟨h.os, h.tape, h.output, h.size, h.block⟩

end Go.Proofs.YtbhnfehpbbibbaaDoor

namespace Go.Proofs.YtbhnfehpbbibbaaDoor
open Go.RowKit

def mayB (r : Nat) : Bool := decide (r ≤ 1114111 ∧ (r < 55296 ∨ 57343 < r))
/-- how many bytes a rune has that begins so; 0: none does -/
def cls (c : Nat) : Nat := if c < 128 then 1 else if c < 192 then 0 else if c < 224 then 2 else if c < 240 then 3 else if c < 248 then 4 else 0
def baseR : Nat → Nat | 2 => 192 | 3 => 224 | 4 => 240 | _ => 0
def leastR : Nat → Nat | 2 => 128 | 3 => 2048 | 4 => 65536 | _ => 0
def contB (s : ByteArray) (i : Nat) : Bool := decide (128 ≤ bt s i ∧ bt s i < 192)
def tailR (s : ByteArray) : Nat → Nat → Nat → Option Nat
  | 0, _, acc => some acc
  | m + 1, i, acc => if contB s i then tailR s m (i + 1) (acc * 64 + (bt s i - 128)) else none
def runeOf (s : ByteArray) (i n : Nat) : Nat × Nat :=
  match tailR s (n - 1) (i + 1) (bt s i - baseR n) with
  | none => (0, 0)
  | some r => if leastR n ≤ r ∧ mayB r = true then (r, n) else (0, 0)
def runeS (s : ByteArray) (i : Nat) : Nat × Nat :=
  if i < s.size then (if cls (bt s i) = 0 then (0, 0) else runeOf s i (cls (bt s i))) else (0, 0)

theorem and_i64_128 (c : Nat) (h : c < 256) : bits .and .i64 (c : Nat) 128 = (c / 128 * 128 : Nat) := by revert c; decide +kernel
theorem and_i64_224 : ∀ c < 256, bits .and .i64 (c : Nat) 224 = (c / 32 * 32 : Nat) := by decide +kernel
theorem and_i64_240 : ∀ c < 256, bits .and .i64 (c : Nat) 240 = (c / 16 * 16 : Nat) := by decide +kernel
theorem and_i64_248 : ∀ c < 256, bits .and .i64 (c : Nat) 248 = (c / 8 * 8 : Nat) := by decide +kernel
theorem andNot_i64_128 : ∀ c < 256, bits .andNot .i64 (c : Nat) 128 = (c % 128 : Nat) := by decide +kernel
theorem andNot_i64_224 : ∀ c < 256, bits .andNot .i64 (c : Nat) 224 = (c % 32 : Nat) := by decide +kernel
theorem andNot_i64_240 : ∀ c < 256, bits .andNot .i64 (c : Nat) 240 = (c % 16 : Nat) := by decide +kernel
theorem andNot_i64_248 : ∀ c < 256, bits .andNot .i64 (c : Nat) 248 = (c % 8 : Nat) := by decide +kernel
theorem and_u8_192 : ∀ c < 256, bits .and .u8 (c : Nat) 192 = (c / 64 * 64 : Nat) := by decide +kernel
theorem and_u8_63 : ∀ c < 256, bits .and .u8 (c : Nat) 63 = (c % 64 : Nat) := by decide +kernel

def formsV : Array Value := #[.int .i64 0, .int .i64 0, .int .i64 0, .int .i64 128, .int .i64 0, .int .i64 0, .int .i64 224, .int .i64 192, .int .i64 128, .int .i64 240, .int .i64 224, .int .i64 2048, .int .i64 248, .int .i64 240, .int .i64 65536]

theorem may_1 (r : Int) (h0 : 0 ≤ r) (h : r < 55296) : mayB r.toNat = true := by unfold mayB; exact decide_eq_true ⟨by omega, by omega⟩
theorem may_2 (r : Int) (h0 : 0 ≤ r) (h : r ≤ 1114111) (h2 : ¬ r < 55296) : mayB r.toNat = decide ((57343 : Int) < r) := by
  unfold mayB
  rw [Bool.eq_iff_iff]
  simp only [decide_eq_true_eq]
  omega
theorem may_3 (r : Int) (h : ¬ r ≤ 1114111) : mayB r.toNat = false := by unfold mayB; exact decide_eq_false (fun h' => h (by omega))

set_option maxHeartbeats 400000 in
theorem may_any (r : Int) (w : World) (h0 : 0 ≤ r) :
    Calls Tryd.prog 60 #[.int .i64 r] w fun e w' => e = .returned (.bool (mayB r.toNat)) ∧ w = w' := by
  by_cases h1 : r ≤ 1114111
  · by_cases h2 : r < 55296
    · have E := Lib.hid (may_1 r h0 h2)
      go_enter Tryd.func60, Tryd.ntmps60
      go_wp2
      go_ret
      exact ⟨by rw [E.out]; rfl, rfl⟩
    · have E := Lib.hid (may_2 r h0 h1 h2)
      go_enter Tryd.func60, Tryd.ntmps60
      go_wp2
      go_ret
      exact ⟨by rw [E.out]; rfl, rfl⟩
  · have E := Lib.hid (may_3 r h1)
    go_enter Tryd.func60, Tryd.ntmps60
    go_wp2
    go_ret
    exact ⟨by rw [E.out]; rfl, rfl⟩

set_option maxHeartbeats 400000 in
theorem forms_any (w : World) :
    Calls Tryd.prog 59 #[] w fun e w' => e = .returned (.agg formsV) ∧ w' = w.alloc (.cells formsV 86) := by
  go_enter Tryd.func59, Tryd.ntmps59
  go_wp2
  exact bodyPost_ret (v := .agg formsV) (by simp [results, Tryd.results59, go_sem, formsV]) rfl ⟨rfl, rfl⟩

theorem idx_0 (w : World) : (Instr.index 86 (.agg formsV) (.int .i64 0)).run Tryd.prog w = .ok (.agg #[.int .i64 0, .int .i64 0, .int .i64 0]) w := by kernel_rfl
theorem idx_1 (w : World) : (Instr.index 86 (.agg formsV) (.int .i64 1)).run Tryd.prog w = .ok (.agg #[.int .i64 128, .int .i64 0, .int .i64 0]) w := by kernel_rfl
theorem idx_2 (w : World) : (Instr.index 86 (.agg formsV) (.int .i64 2)).run Tryd.prog w = .ok (.agg #[.int .i64 224, .int .i64 192, .int .i64 128]) w := by kernel_rfl
theorem idx_3 (w : World) : (Instr.index 86 (.agg formsV) (.int .i64 3)).run Tryd.prog w = .ok (.agg #[.int .i64 240, .int .i64 224, .int .i64 2048]) w := by kernel_rfl
theorem idx_4 (w : World) : (Instr.index 86 (.agg formsV) (.int .i64 4)).run Tryd.prog w = .ok (.agg #[.int .i64 248, .int .i64 240, .int .i64 65536]) w := by kernel_rfl

end Go.Proofs.YtbhnfehpbbibbaaDoor

namespace Go.Proofs.YtbhnfehpbbibbaaDoor
open Go.RowKit

theorem cls_le (c : Nat) : cls c ≤ 4 := by unfold cls; (repeat' split) <;> omega
theorem m1 : ∀ c < 256, (bits .and .i64 (c : Nat) 128 != 0) = !decide (cls c = 1) := by decide +kernel
theorem m2 : ∀ c < 256, (bits .and .i64 (c : Nat) 224 != 192) = !decide (cls c = 2) := by decide +kernel
theorem m3 : ∀ c < 256, (bits .and .i64 (c : Nat) 240 != 224) = !decide (cls c = 3) := by decide +kernel
theorem m4 : ∀ c < 256, (bits .and .i64 (c : Nat) 248 != 240) = !decide (cls c = 4) := by decide +kernel
theorem n1 : ∀ c < 256, cls c = 1 → bits .andNot .i64 (c : Nat) 128 = (c - baseR 1 : Nat) := by decide +kernel
theorem n2 : ∀ c < 256, cls c = 2 → bits .andNot .i64 (c : Nat) 224 = (c - baseR 2 : Nat) := by decide +kernel
theorem n3 : ∀ c < 256, cls c = 3 → bits .andNot .i64 (c : Nat) 240 = (c - baseR 3 : Nat) := by decide +kernel
theorem n4 : ∀ c < 256, cls c = 4 → bits .andNot .i64 (c : Nat) 248 = (c - baseR 4 : Nat) := by decide +kernel
theorem l1 : ∀ c < 256, cls c = 1 → c - baseR 1 < 128 := by decide +kernel
theorem l2 : ∀ c < 256, cls c = 2 → c - baseR 2 < 32 := by decide +kernel
theorem l3 : ∀ c < 256, cls c = 3 → c - baseR 3 < 32 := by decide +kernel
theorem l4 : ∀ c < 256, cls c = 4 → c - baseR 4 < 32 := by decide +kernel
theorem q192 : ∀ c < 256, (bits .and .u8 (c : Nat) 192 != 128) = !decide (128 ≤ c ∧ c < 192) := by decide +kernel
theorem i64_or6 (x y : Int) (hx₀ : 0 ≤ x) (hx₁ : x < 9223372036854775808) (hx : x % 64 = 0) (h₀ : 0 ≤ y) (h₁ : y < 64) : bits .or .i64 x y = x + y :=
  bits_join .i64 63 (by decide) (fun n h0 h1 => by rw [IntKind.wrap_i64]; omega) 6 x y hx₀ hx hx₁ h₀ h₁ (by omega)
def bk : Nat → Nat | 0 => 32 | 1 => 2048 | 2 => 131072 | _ => 8388608
theorem bk_le (k : Nat) : bk k ≤ 8388608 := by unfold bk; split <;> omega
theorem bk_step (k a c : Nat) (hk : k < 3) (ha : a < bk k) (hc : c < 64) : a * 64 + c < bk (k + 1) := by
  rcases k with _ | _ | _ | k <;> simp only [bk] at * <;> omega
theorem or_step (acc c : Nat) (h : acc < 8388608) (hc : 128 ≤ c ∧ c < 192) : bits .or .i64 ((acc : Int) * 64) ((c : Int) % 64) = ((acc * 64 + (c - 128) : Nat) : Int) := by
  rw [i64_or6 _ _ (by omega) (by omega) (by omega) (by omega) (by omega)]
  omega
/-- the tail of a rune that goes on, and of one that does not -/
theorem tail_yes {s : ByteArray} {m i acc : Nat} (h : contB s i = true) : tailR s (m + 1) i acc = tailR s m (i + 1) (acc * 64 + (bt s i - 128)) := by simp [tailR, h]
theorem tail_no {s : ByteArray} {m i acc : Nat} (h : ¬ contB s i = true) : tailR s (m + 1) i acc = none := by simp [tailR, h]
theorem tail_short (s : ByteArray) : ∀ (m i acc : Nat), s.size < i + m → i ≤ s.size → tailR s m i acc = none
  | 0, i, acc, h, h2 => by omega
  | m + 1, i, acc, h, h2 => by
    unfold tailR; split
    · rename_i hc
      have : i < s.size := by
        by_cases hx : i < s.size
        · exact hx
        · simp [contB, bt_out (show s.size ≤ i by omega)] at hc
      exact tail_short s m (i + 1) _ (by omega) (by omega)
    · rfl

set_option maxRecDepth 100000 in
set_option maxHeartbeats 1000000 in
theorem rune_0 (s : ByteArray) (i : Nat) (w : World) (hs : s.size ≤ maxLen) (hi : i < s.size) (hc : cls (bt s i) = 0) :
    Calls Tryd.prog 49 #[.string s, .int .i64 i] w fun e w' => e = .returned (.tuple #[.int .i64 0, .int .i64 0]) ∧ Below w.heap.size w w' := by
  unfold maxLen at hs
  have hb : (s[i]'hi).toNat < 256 := UInt8.toNat_lt _
  have b1 := m1 _ (bt_lt s i); have b2 := m2 _ (bt_lt s i); have b3 := m3 _ (bt_lt s i); have b4 := m4 _ (bt_lt s i)
  rw [hc] at b1 b2 b3 b4
  rw [bt_at hi] at b1 b2 b3 b4
  simp only [decide_true, decide_false, Bool.not_false, Bool.not_true, Nat.reduceEqDiff, Nat.reduceBEq] at b1 b2 b3 b4
  have i0 := idx_0; have i1 := idx_1; have i2 := idx_2; have i3 := idx_3; have i4 := idx_4
  clear hc
  go_enter Tryd.func49, Tryd.ntmps49
  go_wp2_with (go_at_call 59; refine (forms_any _).mono ?_; rintro e w' ⟨rfl, rfl⟩)
  refine wp_loop_rounds 6 ?_
  rw [rounds_succ]
  go_wp2
  go_quiet (fail)
  go_wp2
  rw [rounds_succ]
  go_wp2
  go_quiet (fail)
  go_wp2
  rw [rounds_succ]
  go_wp2
  go_quiet (fail)
  go_wp2
  rw [rounds_succ]
  go_wp2
  go_quiet (fail)
  go_wp2
  rw [rounds_succ]
  go_wp2
  go_quiet (fail)
  go_wp2
  rw [rounds_succ]
  go_wp2
  go_ret2
  exact ⟨rfl, by (repeat' (first | (with_reducible exact Below.refl _ _) | (with_reducible assumption) | (with_reducible refine below_drewN ?_ _) | (with_reducible refine Below.drew ?_) | (with_reducible refine Below.alloc ?_ ?_ _) | (with_reducible refine Below.setCell ?_ ?_ _) | (with_reducible exact Nat.le_refl _) | omega | (simp only [World.size_alloc, World.size_setCell, World.size_drew]; omega) | (simp; done) | (simp; omega)))⟩

def R1 (s : ByteArray) (i : Nat) : Value := .tuple #[.int .i64 (runeOf s i 1).1, .int .i64 (runeOf s i 1).2]
theorem R1_none {s : ByteArray} {i : Nat} (h : tailR s 0 (i + 1) (bt s i - baseR 1) = none) : R1 s i = .tuple #[.int .i64 0, .int .i64 0] := by simp [R1, runeOf, h]
theorem R1_small {s : ByteArray} {i acc : Nat} (h : tailR s 0 (i + 1) (bt s i - baseR 1) = some acc) (h2 : acc < leastR 1) : R1 s i = .tuple #[.int .i64 0, .int .i64 0] := by
  have h3 : ¬ (leastR 1 ≤ acc ∧ mayB acc = true) := by omega
  simp only [R1, runeOf, h]; rw [if_neg h3]; rfl
theorem R1_no {s : ByteArray} {i acc : Nat} (h : tailR s 0 (i + 1) (bt s i - baseR 1) = some acc) (h2 : mayB acc = false) : R1 s i = .tuple #[.int .i64 0, .int .i64 0] := by
  have h3 : ¬ (leastR 1 ≤ acc ∧ mayB acc = true) := by simp [h2]
  simp only [R1, runeOf, h]; rw [if_neg h3]; rfl
theorem R1_yes {s : ByteArray} {i acc : Nat} (h : tailR s 0 (i + 1) (bt s i - baseR 1) = some acc) (h1 : leastR 1 ≤ acc) (h2 : mayB acc = true) : R1 s i = .tuple #[.int .i64 acc, .int .i64 1] := by
  simp only [R1, runeOf, h]; rw [if_pos ⟨h1, h2⟩]; rfl
set_option maxRecDepth 100000 in
set_option maxHeartbeats 1000000 in
theorem rune_1 (s : ByteArray) (i : Nat) (w : World) (hs : s.size ≤ maxLen) (hi : i < s.size) (hc : cls (bt s i) = 1) :
    Calls Tryd.prog 49 #[.string s, .int .i64 i] w fun e w' => e = .returned (R1 s i) ∧ Below w.heap.size w w' := by
  unfold maxLen at hs
  have hb : (s[i]'hi).toNat < 256 := UInt8.toNat_lt _
  have b1 := m1 _ (bt_lt s i); have b2 := m2 _ (bt_lt s i); have b3 := m3 _ (bt_lt s i); have b4 := m4 _ (bt_lt s i)
  rw [hc] at b1 b2 b3 b4
  rw [bt_at hi] at b1 b2 b3 b4
  simp only [decide_true, decide_false, Bool.not_false, Bool.not_true, Nat.reduceEqDiff, Nat.reduceBEq] at b1 b2 b3 b4
  have i0 := idx_0; have i1 := idx_1; have i2 := idx_2; have i3 := idx_3; have i4 := idx_4
  have hn := n1 _ (bt_lt s i) hc
  have hl := l1 _ (bt_lt s i) hc
  obtain ⟨a0, ha0⟩ : ∃ a0 : Nat, bt s i - baseR 1 = a0 := ⟨_, rfl⟩
  rw [bt_at hi, show (s[i]'hi).toNat - baseR 1 = a0 from by rw [← bt_at hi]; exact ha0] at hn
  rw [ha0] at hl
  have HA := Lib.hid ha0
  clear ha0 hc
  go_enter Tryd.func49, Tryd.ntmps49
  go_wp2_with (go_at_call 59; refine (forms_any _).mono ?_; rintro e w' ⟨rfl, rfl⟩)
  refine wp_loop_rounds 6 ?_
  rw [rounds_succ]
  go_wp2
  go_quiet (fail)
  go_wp2
  rw [rounds_succ]
  go_wp2
  go_quiet (fail)
  by_cases hn : (1 : Int) ≤ s.size - i
  · go_wp2
    go_quiet (fail)
    go_wp2
    go_loop [8, 9] (fun v8 v9 => ∃ (k acc : Nat) (A : Int), k + 1 ≤ 1 ∧ 0 ≤ A ∧ A < 8388608 ∧ v9 = .int .i64 ((i : Int) + 1 + k) ∧ v8 = .int .i64 A ∧ Hid (A = acc ∧ True ∧ tailR s 0 (i + 1) (bt s i - baseR 1) = tailR s (0 - k) (i + 1 + k) acc)) (fun _ v9 => (i + 1 - (intOf v9).toNat))
    case atStart => exact ⟨0, a0, a0, by omega, by omega, by omega, by simp, rfl, rfl, trivial, by rw [HA.out]⟩
    case round =>
      obtain ⟨k, acc, A, hk, hA0, hacc, rfl, rfl, HT⟩ := hrel
      · obtain rfl : k = 0 := by omega
        have HT2 : Hid (tailR s 0 (i + 1) (bt s i - baseR 1) = some acc) := by
          show _ = _
          rw [HT.out.2.2]; rfl
        have hAc := HT.out.1
        clear HT
        by_cases hls : acc < leastR 1
        · have HR := Lib.hid (R1_small HT2.out hls)
          have hls' : A < 0 := by simp only [leastR] at hls; omega
          clear hls HT2 hAc
          exact absurd hls' (by omega)
        · have hls' : ¬ A < 0 := by simp only [leastR] at hls; omega
          have hls2 : decide (A < 0) = false := decide_eq_false hls'
          by_cases hm : mayB acc = true
          · have HR := Lib.hid (R1_yes HT2.out (by omega) hm)
            have HAc := Lib.hid hAc
            have HM : Hid (mayB A.toNat = true) := by show _ = _; rw [hAc, Int.toNat_natCast]; exact hm
            clear hls HT2 hAc hm
            go_wp2_with (go_at_call 60; refine (may_any _ _ (by omega)).mono ?_; rintro e w' ⟨rfl, rfl⟩; rw [HM.out])
            go_ret2
            exact ⟨by rw [HR.out, ← HAc.out]; rfl, by (repeat' (first | (with_reducible exact Below.refl _ _) | (with_reducible assumption) | (with_reducible refine below_drewN ?_ _) | (with_reducible refine Below.drew ?_) | (with_reducible refine Below.alloc ?_ ?_ _) | (with_reducible refine Below.setCell ?_ ?_ _) | (with_reducible exact Nat.le_refl _) | omega | (simp only [World.size_alloc, World.size_setCell, World.size_drew]; omega) | (simp; done) | (simp; omega)))⟩
          · have hm' : mayB acc = false := by simpa using hm
            have HR := Lib.hid (R1_no HT2.out hm')
            have HM : Hid (mayB A.toNat = false) := by show _ = _; rw [hAc, Int.toNat_natCast]; exact hm'
            clear hls HT2 hAc hm hm'
            go_wp2_with (go_at_call 60; refine (may_any _ _ (by omega)).mono ?_; rintro e w' ⟨rfl, rfl⟩; rw [HM.out])
            go_ret2
            exact ⟨by rw [HR.out]; rfl, by (repeat' (first | (with_reducible exact Below.refl _ _) | (with_reducible assumption) | (with_reducible refine below_drewN ?_ _) | (with_reducible refine Below.drew ?_) | (with_reducible refine Below.alloc ?_ ?_ _) | (with_reducible refine Below.setCell ?_ ?_ _) | (with_reducible exact Nat.le_refl _) | omega | (simp only [World.size_alloc, World.size_setCell, World.size_drew]; omega) | (simp; done) | (simp; omega)))⟩
  · exact absurd (show (1 : Int) ≤ s.size - i by omega) hn

def R2 (s : ByteArray) (i : Nat) : Value := .tuple #[.int .i64 (runeOf s i 2).1, .int .i64 (runeOf s i 2).2]
theorem R2_none {s : ByteArray} {i : Nat} (h : tailR s 1 (i + 1) (bt s i - baseR 2) = none) : R2 s i = .tuple #[.int .i64 0, .int .i64 0] := by simp [R2, runeOf, h]
theorem R2_small {s : ByteArray} {i acc : Nat} (h : tailR s 1 (i + 1) (bt s i - baseR 2) = some acc) (h2 : acc < leastR 2) : R2 s i = .tuple #[.int .i64 0, .int .i64 0] := by
  have h3 : ¬ (leastR 2 ≤ acc ∧ mayB acc = true) := by omega
  simp only [R2, runeOf, h]; rw [if_neg h3]; rfl
theorem R2_no {s : ByteArray} {i acc : Nat} (h : tailR s 1 (i + 1) (bt s i - baseR 2) = some acc) (h2 : mayB acc = false) : R2 s i = .tuple #[.int .i64 0, .int .i64 0] := by
  have h3 : ¬ (leastR 2 ≤ acc ∧ mayB acc = true) := by simp [h2]
  simp only [R2, runeOf, h]; rw [if_neg h3]; rfl
theorem R2_yes {s : ByteArray} {i acc : Nat} (h : tailR s 1 (i + 1) (bt s i - baseR 2) = some acc) (h1 : leastR 2 ≤ acc) (h2 : mayB acc = true) : R2 s i = .tuple #[.int .i64 acc, .int .i64 2] := by
  simp only [R2, runeOf, h]; rw [if_pos ⟨h1, h2⟩]; rfl
set_option maxRecDepth 100000 in
set_option maxHeartbeats 1000000 in
theorem rune_2 (s : ByteArray) (i : Nat) (w : World) (hs : s.size ≤ maxLen) (hi : i < s.size) (hc : cls (bt s i) = 2) :
    Calls Tryd.prog 49 #[.string s, .int .i64 i] w fun e w' => e = .returned (R2 s i) ∧ Below w.heap.size w w' := by
  unfold maxLen at hs
  have hb : (s[i]'hi).toNat < 256 := UInt8.toNat_lt _
  have b1 := m1 _ (bt_lt s i); have b2 := m2 _ (bt_lt s i); have b3 := m3 _ (bt_lt s i); have b4 := m4 _ (bt_lt s i)
  rw [hc] at b1 b2 b3 b4
  rw [bt_at hi] at b1 b2 b3 b4
  simp only [decide_true, decide_false, Bool.not_false, Bool.not_true, Nat.reduceEqDiff, Nat.reduceBEq] at b1 b2 b3 b4
  have i0 := idx_0; have i1 := idx_1; have i2 := idx_2; have i3 := idx_3; have i4 := idx_4
  have hn := n2 _ (bt_lt s i) hc
  have hl := l2 _ (bt_lt s i) hc
  obtain ⟨a0, ha0⟩ : ∃ a0 : Nat, bt s i - baseR 2 = a0 := ⟨_, rfl⟩
  rw [bt_at hi, show (s[i]'hi).toNat - baseR 2 = a0 from by rw [← bt_at hi]; exact ha0] at hn
  rw [ha0] at hl
  have HA := Lib.hid ha0
  clear ha0 hc
  go_enter Tryd.func49, Tryd.ntmps49
  go_wp2_with (go_at_call 59; refine (forms_any _).mono ?_; rintro e w' ⟨rfl, rfl⟩)
  refine wp_loop_rounds 6 ?_
  rw [rounds_succ]
  go_wp2
  go_quiet (fail)
  go_wp2
  rw [rounds_succ]
  go_wp2
  go_quiet (fail)
  go_wp2
  rw [rounds_succ]
  go_wp2
  go_quiet (fail)
  by_cases hn : (2 : Int) ≤ s.size - i
  · go_wp2
    go_quiet (fail)
    go_wp2
    go_loop [8, 9] (fun v8 v9 => ∃ (k acc : Nat) (A : Int), k + 1 ≤ 2 ∧ 0 ≤ A ∧ A < 8388608 ∧ v9 = .int .i64 ((i : Int) + 1 + k) ∧ v8 = .int .i64 A ∧ Hid (A = acc ∧ acc < bk k ∧ tailR s 1 (i + 1) (bt s i - baseR 2) = tailR s (1 - k) (i + 1 + k) acc)) (fun _ v9 => (i + 2 - (intOf v9).toNat))
    case atStart => exact ⟨0, a0, a0, by omega, by omega, by omega, by simp, rfl, rfl, by simpa [bk] using hl, by rw [HA.out]⟩
    case round =>
      obtain ⟨k, acc, A, hk, hA0, hacc, rfl, rfl, HT⟩ := hrel
      by_cases hkl : k < 1
      · have hix : i + 1 + k < s.size := by omega
        have hb' : (s[i + 1 + k]'hix).toNat < 256 := UInt8.toNat_lt _
        have hqq := q192 _ (bt_lt s (i + 1 + k))
        have hbk := bt_at hix
        by_cases hcb : contB s (i + 1 + k) = true
        · have hcc : 128 ≤ (s[i + 1 + k]'hix).toNat ∧ (s[i + 1 + k]'hix).toNat < 192 := by rw [← hbk]; exact of_decide_eq_true hcb
          have hq : (bits .and .u8 ((s[i + 1 + k]'hix).toNat : Int) 192 != 128) = false := by rw [← hbk, hqq]; simpa [contB] using hcb
          have HS : Hid (acc * 64 + (bt s (i + 1 + k) - 128) < bk (k + 1) ∧ tailR s 1 (i + 1) (bt s i - baseR 2) = tailR s (1 - (k + 1)) (i + 1 + (k + 1)) (acc * 64 + (bt s (i + 1 + k) - 128))) := by
            refine ⟨bk_step k _ _ (by omega) HT.out.2.1 (by omega), ?_⟩
            rw [HT.out.2.2, show 1 - k = (1 - (k + 1)) + 1 from by omega, tail_yes hcb]; rfl
          have HO := Lib.hid (or_step acc _ (by have := HT.out.1; omega) hcc)
          have HAc := Lib.hid HT.out.1
          clear HT
          have HB := Lib.hid hbk
          clear hcb hqq hbk hcc
          go_wp2
          refine ⟨⟨k + 1, acc * 64 + (bt s (i + 1 + k) - 128), ((acc * 64 + (bt s (i + 1 + k) - 128) : Nat) : Int), by omega, by omega, by have := HS.out.1; have := bk_le (k + 1); omega, by go_num, by rw [HAc.out, HO.out, HB.out], rfl, HS.out⟩, by simp [intOf]; omega⟩
        · have hq : (bits .and .u8 ((s[i + 1 + k]'hix).toNat : Int) 192 != 128) = true := by rw [← hbk, hqq]; unfold contB at hcb; simp only [Bool.not_eq_true] at hcb; rw [hcb]; rfl
          have HN : Hid (tailR s 1 (i + 1) (bt s i - baseR 2) = none) := by
            show _ = _
            rw [HT.out.2.2, show 1 - k = (1 - (k + 1)) + 1 from by omega, tail_no hcb]
          clear hcb hqq hbk HT
          go_wp2
          go_ret2
          exact ⟨by rw [R2_none HN.out]; rfl, by (repeat' (first | (with_reducible exact Below.refl _ _) | (with_reducible assumption) | (with_reducible refine below_drewN ?_ _) | (with_reducible refine Below.drew ?_) | (with_reducible refine Below.alloc ?_ ?_ _) | (with_reducible refine Below.setCell ?_ ?_ _) | (with_reducible exact Nat.le_refl _) | omega | (simp only [World.size_alloc, World.size_setCell, World.size_drew]; omega) | (simp; done) | (simp; omega)))⟩
      · obtain rfl : k = 1 := by omega
        have HT2 : Hid (tailR s 1 (i + 1) (bt s i - baseR 2) = some acc) := by
          show _ = _
          rw [HT.out.2.2]; rfl
        have hAc := HT.out.1
        clear HT
        by_cases hls : acc < leastR 2
        · have HR := Lib.hid (R2_small HT2.out hls)
          have hls' : A < 128 := by simp only [leastR] at hls; omega
          clear hls HT2 hAc
          go_wp2_with fail
          go_ret2
          exact ⟨by rw [HR.out]; rfl, by (repeat' (first | (with_reducible exact Below.refl _ _) | (with_reducible assumption) | (with_reducible refine below_drewN ?_ _) | (with_reducible refine Below.drew ?_) | (with_reducible refine Below.alloc ?_ ?_ _) | (with_reducible refine Below.setCell ?_ ?_ _) | (with_reducible exact Nat.le_refl _) | omega | (simp only [World.size_alloc, World.size_setCell, World.size_drew]; omega) | (simp; done) | (simp; omega)))⟩
        · have hls' : ¬ A < 128 := by simp only [leastR] at hls; omega
          have hls2 : decide (A < 128) = false := decide_eq_false hls'
          by_cases hm : mayB acc = true
          · have HR := Lib.hid (R2_yes HT2.out (by omega) hm)
            have HAc := Lib.hid hAc
            have HM : Hid (mayB A.toNat = true) := by show _ = _; rw [hAc, Int.toNat_natCast]; exact hm
            clear hls HT2 hAc hm
            go_wp2_with (go_at_call 60; refine (may_any _ _ (by omega)).mono ?_; rintro e w' ⟨rfl, rfl⟩; rw [HM.out])
            go_ret2
            exact ⟨by rw [HR.out, ← HAc.out]; rfl, by (repeat' (first | (with_reducible exact Below.refl _ _) | (with_reducible assumption) | (with_reducible refine below_drewN ?_ _) | (with_reducible refine Below.drew ?_) | (with_reducible refine Below.alloc ?_ ?_ _) | (with_reducible refine Below.setCell ?_ ?_ _) | (with_reducible exact Nat.le_refl _) | omega | (simp only [World.size_alloc, World.size_setCell, World.size_drew]; omega) | (simp; done) | (simp; omega)))⟩
          · have hm' : mayB acc = false := by simpa using hm
            have HR := Lib.hid (R2_no HT2.out hm')
            have HM : Hid (mayB A.toNat = false) := by show _ = _; rw [hAc, Int.toNat_natCast]; exact hm'
            clear hls HT2 hAc hm hm'
            go_wp2_with (go_at_call 60; refine (may_any _ _ (by omega)).mono ?_; rintro e w' ⟨rfl, rfl⟩; rw [HM.out])
            go_ret2
            exact ⟨by rw [HR.out]; rfl, by (repeat' (first | (with_reducible exact Below.refl _ _) | (with_reducible assumption) | (with_reducible refine below_drewN ?_ _) | (with_reducible refine Below.drew ?_) | (with_reducible refine Below.alloc ?_ ?_ _) | (with_reducible refine Below.setCell ?_ ?_ _) | (with_reducible exact Nat.le_refl _) | omega | (simp only [World.size_alloc, World.size_setCell, World.size_drew]; omega) | (simp; done) | (simp; omega)))⟩
  · have HN := Lib.hid (R2_none (tail_short s 1 (i + 1) (bt s i - baseR 2) (by omega) (by omega)))
    go_wp2
    go_ret2
    exact ⟨by rw [HN.out]; rfl, by (repeat' (first | (with_reducible exact Below.refl _ _) | (with_reducible assumption) | (with_reducible refine below_drewN ?_ _) | (with_reducible refine Below.drew ?_) | (with_reducible refine Below.alloc ?_ ?_ _) | (with_reducible refine Below.setCell ?_ ?_ _) | (with_reducible exact Nat.le_refl _) | omega | (simp only [World.size_alloc, World.size_setCell, World.size_drew]; omega) | (simp; done) | (simp; omega)))⟩

def R3 (s : ByteArray) (i : Nat) : Value := .tuple #[.int .i64 (runeOf s i 3).1, .int .i64 (runeOf s i 3).2]
theorem R3_none {s : ByteArray} {i : Nat} (h : tailR s 2 (i + 1) (bt s i - baseR 3) = none) : R3 s i = .tuple #[.int .i64 0, .int .i64 0] := by simp [R3, runeOf, h]
theorem R3_small {s : ByteArray} {i acc : Nat} (h : tailR s 2 (i + 1) (bt s i - baseR 3) = some acc) (h2 : acc < leastR 3) : R3 s i = .tuple #[.int .i64 0, .int .i64 0] := by
  have h3 : ¬ (leastR 3 ≤ acc ∧ mayB acc = true) := by omega
  simp only [R3, runeOf, h]; rw [if_neg h3]; rfl
theorem R3_no {s : ByteArray} {i acc : Nat} (h : tailR s 2 (i + 1) (bt s i - baseR 3) = some acc) (h2 : mayB acc = false) : R3 s i = .tuple #[.int .i64 0, .int .i64 0] := by
  have h3 : ¬ (leastR 3 ≤ acc ∧ mayB acc = true) := by simp [h2]
  simp only [R3, runeOf, h]; rw [if_neg h3]; rfl
theorem R3_yes {s : ByteArray} {i acc : Nat} (h : tailR s 2 (i + 1) (bt s i - baseR 3) = some acc) (h1 : leastR 3 ≤ acc) (h2 : mayB acc = true) : R3 s i = .tuple #[.int .i64 acc, .int .i64 3] := by
  simp only [R3, runeOf, h]; rw [if_pos ⟨h1, h2⟩]; rfl
set_option maxRecDepth 100000 in
set_option maxHeartbeats 1000000 in
theorem rune_3 (s : ByteArray) (i : Nat) (w : World) (hs : s.size ≤ maxLen) (hi : i < s.size) (hc : cls (bt s i) = 3) :
    Calls Tryd.prog 49 #[.string s, .int .i64 i] w fun e w' => e = .returned (R3 s i) ∧ Below w.heap.size w w' := by
  unfold maxLen at hs
  have hb : (s[i]'hi).toNat < 256 := UInt8.toNat_lt _
  have b1 := m1 _ (bt_lt s i); have b2 := m2 _ (bt_lt s i); have b3 := m3 _ (bt_lt s i); have b4 := m4 _ (bt_lt s i)
  rw [hc] at b1 b2 b3 b4
  rw [bt_at hi] at b1 b2 b3 b4
  simp only [decide_true, decide_false, Bool.not_false, Bool.not_true, Nat.reduceEqDiff, Nat.reduceBEq] at b1 b2 b3 b4
  have i0 := idx_0; have i1 := idx_1; have i2 := idx_2; have i3 := idx_3; have i4 := idx_4
  have hn := n3 _ (bt_lt s i) hc
  have hl := l3 _ (bt_lt s i) hc
  obtain ⟨a0, ha0⟩ : ∃ a0 : Nat, bt s i - baseR 3 = a0 := ⟨_, rfl⟩
  rw [bt_at hi, show (s[i]'hi).toNat - baseR 3 = a0 from by rw [← bt_at hi]; exact ha0] at hn
  rw [ha0] at hl
  have HA := Lib.hid ha0
  clear ha0 hc
  go_enter Tryd.func49, Tryd.ntmps49
  go_wp2_with (go_at_call 59; refine (forms_any _).mono ?_; rintro e w' ⟨rfl, rfl⟩)
  refine wp_loop_rounds 6 ?_
  rw [rounds_succ]
  go_wp2
  go_quiet (fail)
  go_wp2
  rw [rounds_succ]
  go_wp2
  go_quiet (fail)
  go_wp2
  rw [rounds_succ]
  go_wp2
  go_quiet (fail)
  go_wp2
  rw [rounds_succ]
  go_wp2
  go_quiet (fail)
  by_cases hn : (3 : Int) ≤ s.size - i
  · go_wp2
    go_quiet (fail)
    go_wp2
    go_loop [8, 9] (fun v8 v9 => ∃ (k acc : Nat) (A : Int), k + 1 ≤ 3 ∧ 0 ≤ A ∧ A < 8388608 ∧ v9 = .int .i64 ((i : Int) + 1 + k) ∧ v8 = .int .i64 A ∧ Hid (A = acc ∧ acc < bk k ∧ tailR s 2 (i + 1) (bt s i - baseR 3) = tailR s (2 - k) (i + 1 + k) acc)) (fun _ v9 => (i + 3 - (intOf v9).toNat))
    case atStart => exact ⟨0, a0, a0, by omega, by omega, by omega, by simp, rfl, rfl, by simpa [bk] using hl, by rw [HA.out]⟩
    case round =>
      obtain ⟨k, acc, A, hk, hA0, hacc, rfl, rfl, HT⟩ := hrel
      by_cases hkl : k < 2
      · have hix : i + 1 + k < s.size := by omega
        have hb' : (s[i + 1 + k]'hix).toNat < 256 := UInt8.toNat_lt _
        have hqq := q192 _ (bt_lt s (i + 1 + k))
        have hbk := bt_at hix
        by_cases hcb : contB s (i + 1 + k) = true
        · have hcc : 128 ≤ (s[i + 1 + k]'hix).toNat ∧ (s[i + 1 + k]'hix).toNat < 192 := by rw [← hbk]; exact of_decide_eq_true hcb
          have hq : (bits .and .u8 ((s[i + 1 + k]'hix).toNat : Int) 192 != 128) = false := by rw [← hbk, hqq]; simpa [contB] using hcb
          have HS : Hid (acc * 64 + (bt s (i + 1 + k) - 128) < bk (k + 1) ∧ tailR s 2 (i + 1) (bt s i - baseR 3) = tailR s (2 - (k + 1)) (i + 1 + (k + 1)) (acc * 64 + (bt s (i + 1 + k) - 128))) := by
            refine ⟨bk_step k _ _ (by omega) HT.out.2.1 (by omega), ?_⟩
            rw [HT.out.2.2, show 2 - k = (2 - (k + 1)) + 1 from by omega, tail_yes hcb]; rfl
          have HO := Lib.hid (or_step acc _ (by have := HT.out.1; omega) hcc)
          have HAc := Lib.hid HT.out.1
          clear HT
          have HB := Lib.hid hbk
          clear hcb hqq hbk hcc
          go_wp2
          refine ⟨⟨k + 1, acc * 64 + (bt s (i + 1 + k) - 128), ((acc * 64 + (bt s (i + 1 + k) - 128) : Nat) : Int), by omega, by omega, by have := HS.out.1; have := bk_le (k + 1); omega, by go_num, by rw [HAc.out, HO.out, HB.out], rfl, HS.out⟩, by simp [intOf]; omega⟩
        · have hq : (bits .and .u8 ((s[i + 1 + k]'hix).toNat : Int) 192 != 128) = true := by rw [← hbk, hqq]; unfold contB at hcb; simp only [Bool.not_eq_true] at hcb; rw [hcb]; rfl
          have HN : Hid (tailR s 2 (i + 1) (bt s i - baseR 3) = none) := by
            show _ = _
            rw [HT.out.2.2, show 2 - k = (2 - (k + 1)) + 1 from by omega, tail_no hcb]
          clear hcb hqq hbk HT
          go_wp2
          go_ret2
          exact ⟨by rw [R3_none HN.out]; rfl, by (repeat' (first | (with_reducible exact Below.refl _ _) | (with_reducible assumption) | (with_reducible refine below_drewN ?_ _) | (with_reducible refine Below.drew ?_) | (with_reducible refine Below.alloc ?_ ?_ _) | (with_reducible refine Below.setCell ?_ ?_ _) | (with_reducible exact Nat.le_refl _) | omega | (simp only [World.size_alloc, World.size_setCell, World.size_drew]; omega) | (simp; done) | (simp; omega)))⟩
      · obtain rfl : k = 2 := by omega
        have HT2 : Hid (tailR s 2 (i + 1) (bt s i - baseR 3) = some acc) := by
          show _ = _
          rw [HT.out.2.2]; rfl
        have hAc := HT.out.1
        clear HT
        by_cases hls : acc < leastR 3
        · have HR := Lib.hid (R3_small HT2.out hls)
          have hls' : A < 2048 := by simp only [leastR] at hls; omega
          clear hls HT2 hAc
          go_wp2_with fail
          go_ret2
          exact ⟨by rw [HR.out]; rfl, by (repeat' (first | (with_reducible exact Below.refl _ _) | (with_reducible assumption) | (with_reducible refine below_drewN ?_ _) | (with_reducible refine Below.drew ?_) | (with_reducible refine Below.alloc ?_ ?_ _) | (with_reducible refine Below.setCell ?_ ?_ _) | (with_reducible exact Nat.le_refl _) | omega | (simp only [World.size_alloc, World.size_setCell, World.size_drew]; omega) | (simp; done) | (simp; omega)))⟩
        · have hls' : ¬ A < 2048 := by simp only [leastR] at hls; omega
          have hls2 : decide (A < 2048) = false := decide_eq_false hls'
          by_cases hm : mayB acc = true
          · have HR := Lib.hid (R3_yes HT2.out (by omega) hm)
            have HAc := Lib.hid hAc
            have HM : Hid (mayB A.toNat = true) := by show _ = _; rw [hAc, Int.toNat_natCast]; exact hm
            clear hls HT2 hAc hm
            go_wp2_with (go_at_call 60; refine (may_any _ _ (by omega)).mono ?_; rintro e w' ⟨rfl, rfl⟩; rw [HM.out])
            go_ret2
            exact ⟨by rw [HR.out, ← HAc.out]; rfl, by (repeat' (first | (with_reducible exact Below.refl _ _) | (with_reducible assumption) | (with_reducible refine below_drewN ?_ _) | (with_reducible refine Below.drew ?_) | (with_reducible refine Below.alloc ?_ ?_ _) | (with_reducible refine Below.setCell ?_ ?_ _) | (with_reducible exact Nat.le_refl _) | omega | (simp only [World.size_alloc, World.size_setCell, World.size_drew]; omega) | (simp; done) | (simp; omega)))⟩
          · have hm' : mayB acc = false := by simpa using hm
            have HR := Lib.hid (R3_no HT2.out hm')
            have HM : Hid (mayB A.toNat = false) := by show _ = _; rw [hAc, Int.toNat_natCast]; exact hm'
            clear hls HT2 hAc hm hm'
            go_wp2_with (go_at_call 60; refine (may_any _ _ (by omega)).mono ?_; rintro e w' ⟨rfl, rfl⟩; rw [HM.out])
            go_ret2
            exact ⟨by rw [HR.out]; rfl, by (repeat' (first | (with_reducible exact Below.refl _ _) | (with_reducible assumption) | (with_reducible refine below_drewN ?_ _) | (with_reducible refine Below.drew ?_) | (with_reducible refine Below.alloc ?_ ?_ _) | (with_reducible refine Below.setCell ?_ ?_ _) | (with_reducible exact Nat.le_refl _) | omega | (simp only [World.size_alloc, World.size_setCell, World.size_drew]; omega) | (simp; done) | (simp; omega)))⟩
  · have HN := Lib.hid (R3_none (tail_short s 2 (i + 1) (bt s i - baseR 3) (by omega) (by omega)))
    go_wp2
    go_ret2
    exact ⟨by rw [HN.out]; rfl, by (repeat' (first | (with_reducible exact Below.refl _ _) | (with_reducible assumption) | (with_reducible refine below_drewN ?_ _) | (with_reducible refine Below.drew ?_) | (with_reducible refine Below.alloc ?_ ?_ _) | (with_reducible refine Below.setCell ?_ ?_ _) | (with_reducible exact Nat.le_refl _) | omega | (simp only [World.size_alloc, World.size_setCell, World.size_drew]; omega) | (simp; done) | (simp; omega)))⟩

def R4 (s : ByteArray) (i : Nat) : Value := .tuple #[.int .i64 (runeOf s i 4).1, .int .i64 (runeOf s i 4).2]
theorem R4_none {s : ByteArray} {i : Nat} (h : tailR s 3 (i + 1) (bt s i - baseR 4) = none) : R4 s i = .tuple #[.int .i64 0, .int .i64 0] := by simp [R4, runeOf, h]
theorem R4_small {s : ByteArray} {i acc : Nat} (h : tailR s 3 (i + 1) (bt s i - baseR 4) = some acc) (h2 : acc < leastR 4) : R4 s i = .tuple #[.int .i64 0, .int .i64 0] := by
  have h3 : ¬ (leastR 4 ≤ acc ∧ mayB acc = true) := by omega
  simp only [R4, runeOf, h]; rw [if_neg h3]; rfl
theorem R4_no {s : ByteArray} {i acc : Nat} (h : tailR s 3 (i + 1) (bt s i - baseR 4) = some acc) (h2 : mayB acc = false) : R4 s i = .tuple #[.int .i64 0, .int .i64 0] := by
  have h3 : ¬ (leastR 4 ≤ acc ∧ mayB acc = true) := by simp [h2]
  simp only [R4, runeOf, h]; rw [if_neg h3]; rfl
theorem R4_yes {s : ByteArray} {i acc : Nat} (h : tailR s 3 (i + 1) (bt s i - baseR 4) = some acc) (h1 : leastR 4 ≤ acc) (h2 : mayB acc = true) : R4 s i = .tuple #[.int .i64 acc, .int .i64 4] := by
  simp only [R4, runeOf, h]; rw [if_pos ⟨h1, h2⟩]; rfl
set_option maxRecDepth 100000 in
set_option maxHeartbeats 1000000 in
theorem rune_4 (s : ByteArray) (i : Nat) (w : World) (hs : s.size ≤ maxLen) (hi : i < s.size) (hc : cls (bt s i) = 4) :
    Calls Tryd.prog 49 #[.string s, .int .i64 i] w fun e w' => e = .returned (R4 s i) ∧ Below w.heap.size w w' := by
  unfold maxLen at hs
  have hb : (s[i]'hi).toNat < 256 := UInt8.toNat_lt _
  have b1 := m1 _ (bt_lt s i); have b2 := m2 _ (bt_lt s i); have b3 := m3 _ (bt_lt s i); have b4 := m4 _ (bt_lt s i)
  rw [hc] at b1 b2 b3 b4
  rw [bt_at hi] at b1 b2 b3 b4
  simp only [decide_true, decide_false, Bool.not_false, Bool.not_true, Nat.reduceEqDiff, Nat.reduceBEq] at b1 b2 b3 b4
  have i0 := idx_0; have i1 := idx_1; have i2 := idx_2; have i3 := idx_3; have i4 := idx_4
  have hn := n4 _ (bt_lt s i) hc
  have hl := l4 _ (bt_lt s i) hc
  obtain ⟨a0, ha0⟩ : ∃ a0 : Nat, bt s i - baseR 4 = a0 := ⟨_, rfl⟩
  rw [bt_at hi, show (s[i]'hi).toNat - baseR 4 = a0 from by rw [← bt_at hi]; exact ha0] at hn
  rw [ha0] at hl
  have HA := Lib.hid ha0
  clear ha0 hc
  go_enter Tryd.func49, Tryd.ntmps49
  go_wp2_with (go_at_call 59; refine (forms_any _).mono ?_; rintro e w' ⟨rfl, rfl⟩)
  refine wp_loop_rounds 6 ?_
  rw [rounds_succ]
  go_wp2
  go_quiet (fail)
  go_wp2
  rw [rounds_succ]
  go_wp2
  go_quiet (fail)
  go_wp2
  rw [rounds_succ]
  go_wp2
  go_quiet (fail)
  go_wp2
  rw [rounds_succ]
  go_wp2
  go_quiet (fail)
  go_wp2
  rw [rounds_succ]
  go_wp2
  go_quiet (fail)
  by_cases hn : (4 : Int) ≤ s.size - i
  · go_wp2
    go_quiet (fail)
    go_wp2
    go_loop [8, 9] (fun v8 v9 => ∃ (k acc : Nat) (A : Int), k + 1 ≤ 4 ∧ 0 ≤ A ∧ A < 8388608 ∧ v9 = .int .i64 ((i : Int) + 1 + k) ∧ v8 = .int .i64 A ∧ Hid (A = acc ∧ acc < bk k ∧ tailR s 3 (i + 1) (bt s i - baseR 4) = tailR s (3 - k) (i + 1 + k) acc)) (fun _ v9 => (i + 4 - (intOf v9).toNat))
    case atStart => exact ⟨0, a0, a0, by omega, by omega, by omega, by simp, rfl, rfl, by simpa [bk] using hl, by rw [HA.out]⟩
    case round =>
      obtain ⟨k, acc, A, hk, hA0, hacc, rfl, rfl, HT⟩ := hrel
      by_cases hkl : k < 3
      · have hix : i + 1 + k < s.size := by omega
        have hb' : (s[i + 1 + k]'hix).toNat < 256 := UInt8.toNat_lt _
        have hqq := q192 _ (bt_lt s (i + 1 + k))
        have hbk := bt_at hix
        by_cases hcb : contB s (i + 1 + k) = true
        · have hcc : 128 ≤ (s[i + 1 + k]'hix).toNat ∧ (s[i + 1 + k]'hix).toNat < 192 := by rw [← hbk]; exact of_decide_eq_true hcb
          have hq : (bits .and .u8 ((s[i + 1 + k]'hix).toNat : Int) 192 != 128) = false := by rw [← hbk, hqq]; simpa [contB] using hcb
          have HS : Hid (acc * 64 + (bt s (i + 1 + k) - 128) < bk (k + 1) ∧ tailR s 3 (i + 1) (bt s i - baseR 4) = tailR s (3 - (k + 1)) (i + 1 + (k + 1)) (acc * 64 + (bt s (i + 1 + k) - 128))) := by
            refine ⟨bk_step k _ _ (by omega) HT.out.2.1 (by omega), ?_⟩
            rw [HT.out.2.2, show 3 - k = (3 - (k + 1)) + 1 from by omega, tail_yes hcb]; rfl
          have HO := Lib.hid (or_step acc _ (by have := HT.out.1; omega) hcc)
          have HAc := Lib.hid HT.out.1
          clear HT
          have HB := Lib.hid hbk
          clear hcb hqq hbk hcc
          go_wp2
          refine ⟨⟨k + 1, acc * 64 + (bt s (i + 1 + k) - 128), ((acc * 64 + (bt s (i + 1 + k) - 128) : Nat) : Int), by omega, by omega, by have := HS.out.1; have := bk_le (k + 1); omega, by go_num, by rw [HAc.out, HO.out, HB.out], rfl, HS.out⟩, by simp [intOf]; omega⟩
        · have hq : (bits .and .u8 ((s[i + 1 + k]'hix).toNat : Int) 192 != 128) = true := by rw [← hbk, hqq]; unfold contB at hcb; simp only [Bool.not_eq_true] at hcb; rw [hcb]; rfl
          have HN : Hid (tailR s 3 (i + 1) (bt s i - baseR 4) = none) := by
            show _ = _
            rw [HT.out.2.2, show 3 - k = (3 - (k + 1)) + 1 from by omega, tail_no hcb]
          clear hcb hqq hbk HT
          go_wp2
          go_ret2
          exact ⟨by rw [R4_none HN.out]; rfl, by (repeat' (first | (with_reducible exact Below.refl _ _) | (with_reducible assumption) | (with_reducible refine below_drewN ?_ _) | (with_reducible refine Below.drew ?_) | (with_reducible refine Below.alloc ?_ ?_ _) | (with_reducible refine Below.setCell ?_ ?_ _) | (with_reducible exact Nat.le_refl _) | omega | (simp only [World.size_alloc, World.size_setCell, World.size_drew]; omega) | (simp; done) | (simp; omega)))⟩
      · obtain rfl : k = 3 := by omega
        have HT2 : Hid (tailR s 3 (i + 1) (bt s i - baseR 4) = some acc) := by
          show _ = _
          rw [HT.out.2.2]; rfl
        have hAc := HT.out.1
        clear HT
        by_cases hls : acc < leastR 4
        · have HR := Lib.hid (R4_small HT2.out hls)
          have hls' : A < 65536 := by simp only [leastR] at hls; omega
          clear hls HT2 hAc
          go_wp2_with fail
          go_ret2
          exact ⟨by rw [HR.out]; rfl, by (repeat' (first | (with_reducible exact Below.refl _ _) | (with_reducible assumption) | (with_reducible refine below_drewN ?_ _) | (with_reducible refine Below.drew ?_) | (with_reducible refine Below.alloc ?_ ?_ _) | (with_reducible refine Below.setCell ?_ ?_ _) | (with_reducible exact Nat.le_refl _) | omega | (simp only [World.size_alloc, World.size_setCell, World.size_drew]; omega) | (simp; done) | (simp; omega)))⟩
        · have hls' : ¬ A < 65536 := by simp only [leastR] at hls; omega
          have hls2 : decide (A < 65536) = false := decide_eq_false hls'
          by_cases hm : mayB acc = true
          · have HR := Lib.hid (R4_yes HT2.out (by omega) hm)
            have HAc := Lib.hid hAc
            have HM : Hid (mayB A.toNat = true) := by show _ = _; rw [hAc, Int.toNat_natCast]; exact hm
            clear hls HT2 hAc hm
            go_wp2_with (go_at_call 60; refine (may_any _ _ (by omega)).mono ?_; rintro e w' ⟨rfl, rfl⟩; rw [HM.out])
            go_ret2
            exact ⟨by rw [HR.out, ← HAc.out]; rfl, by (repeat' (first | (with_reducible exact Below.refl _ _) | (with_reducible assumption) | (with_reducible refine below_drewN ?_ _) | (with_reducible refine Below.drew ?_) | (with_reducible refine Below.alloc ?_ ?_ _) | (with_reducible refine Below.setCell ?_ ?_ _) | (with_reducible exact Nat.le_refl _) | omega | (simp only [World.size_alloc, World.size_setCell, World.size_drew]; omega) | (simp; done) | (simp; omega)))⟩
          · have hm' : mayB acc = false := by simpa using hm
            have HR := Lib.hid (R4_no HT2.out hm')
            have HM : Hid (mayB A.toNat = false) := by show _ = _; rw [hAc, Int.toNat_natCast]; exact hm'
            clear hls HT2 hAc hm hm'
            go_wp2_with (go_at_call 60; refine (may_any _ _ (by omega)).mono ?_; rintro e w' ⟨rfl, rfl⟩; rw [HM.out])
            go_ret2
            exact ⟨by rw [HR.out]; rfl, by (repeat' (first | (with_reducible exact Below.refl _ _) | (with_reducible assumption) | (with_reducible refine below_drewN ?_ _) | (with_reducible refine Below.drew ?_) | (with_reducible refine Below.alloc ?_ ?_ _) | (with_reducible refine Below.setCell ?_ ?_ _) | (with_reducible exact Nat.le_refl _) | omega | (simp only [World.size_alloc, World.size_setCell, World.size_drew]; omega) | (simp; done) | (simp; omega)))⟩
  · have HN := Lib.hid (R4_none (tail_short s 3 (i + 1) (bt s i - baseR 4) (by omega) (by omega)))
    go_wp2
    go_ret2
    exact ⟨by rw [HN.out]; rfl, by (repeat' (first | (with_reducible exact Below.refl _ _) | (with_reducible assumption) | (with_reducible refine below_drewN ?_ _) | (with_reducible refine Below.drew ?_) | (with_reducible refine Below.alloc ?_ ?_ _) | (with_reducible refine Below.setCell ?_ ?_ _) | (with_reducible exact Nat.le_refl _) | omega | (simp only [World.size_alloc, World.size_setCell, World.size_drew]; omega) | (simp; done) | (simp; omega)))⟩

end Go.Proofs.YtbhnfehpbbibbaaDoor
