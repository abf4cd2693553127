/- What a value of JSON is as a text, as plain functions: what is written, and the error behind it. No program in sight. What a text is parsed to holds no more members and no longer texts than the text has bytes. No program in sight. Package json's printer: its state, what stays of a world behind what it writes, and add. For every world. -/
import Derived.Test.YtbhnfehpbbibbaaDoorM09
import Derived.Lib.ItoaNum
import Derived.Test.YtbhnfehpbbibbaaDoorM07

namespace Go.Proofs.YtbhnfehpbbibbaaDoor
open Go.RowKit

/-- what is written, and the error that ends it -/
abbrev Tr := List UInt8 × Option Int
def Tr.bind (a b : Tr) : Tr := match a.2 with | some c => (a.1, some c) | none => (a.1 ++ b.1, b.2)
def addT (t : List UInt8) : Tr := (t, none)
def failT (c : Int) : Tr := ([], some c)
theorem bind_add (t : List UInt8) (b : Tr) : (addT t).bind b = (t ++ b.1, b.2) := rfl
theorem bind_fail (c : Int) (b : Tr) : (failT c).bind b = failT c := rfl
theorem bind_nil (a : Tr) : a.bind (addT []) = a := by obtain ⟨t, e⟩ := a; cases e <;> simp [Tr.bind, addT]
theorem bind_assoc (a b c : Tr) : (a.bind b).bind c = a.bind (b.bind c) := by
  obtain ⟨t, e⟩ := a
  cases e with
  | some x => rfl
  | none =>
    obtain ⟨t2, e2⟩ := b
    cases e2 with
    | some x => rfl
    | none => simp [Tr.bind]
theorem add_add (a b : List UInt8) : addT (a ++ b) = (addT a).bind (addT b) := rfl
/-- what has been written, o, with more behind it: where more than 65536 bytes come together: the error 302 -/
def outP (o : List UInt8) (t : Tr) : Except Int (List UInt8) :=
  if 65536 < o.length + t.1.length then .error 302 else match t.2 with | some c => .error c | none => .ok (o ++ t.1)
def thenP (r : Except Int (List UInt8)) (t : Tr) : Except Int (List UInt8) := match r with | .error c => .error c | .ok o => outP o t
theorem outP_bind (o : List UInt8) (a b : Tr) : outP o (a.bind b) = thenP (outP o a) b := by
  obtain ⟨t, e⟩ := a
  cases e with
  | some c =>
    unfold thenP outP Tr.bind
    simp only
    split <;> rfl
  | none =>
    unfold thenP
    rw [outP]
    show (if 65536 < o.length + (t ++ b.1).length then _ else _) = _
    by_cases h : 65536 < o.length + t.length
    · rw [if_pos (by rw [List.length_append]; omega)]
      unfold outP; rw [if_pos h]
    · rw [show outP o (t, none) = .ok (o ++ t) by unfold outP; rw [if_neg h]]
      simp only
      unfold outP
      simp only [List.length_append, Nat.add_assoc, List.append_assoc]
      rfl
theorem outP_len {o o' : List UInt8} {t : Tr} (h : outP o t = .ok o') : o'.length ≤ 65536 := by
  unfold outP at h
  split at h
  · cases h
  · split at h
    · cases h
    · injection h with h; subst h; rw [List.length_append]; omega
theorem outP_add {o : List UInt8} {t : List UInt8} (h : ¬ 65536 < o.length + t.length) : outP o (addT t) = .ok (o ++ t) := by unfold outP addT; simp only; rw [if_neg h]
theorem outP_long {o : List UInt8} {t : Tr} (h : 65536 < o.length + t.1.length) : outP o t = .error 302 := by unfold outP; rw [if_pos h]
theorem outP_fail {o : List UInt8} {c : Int} (h : o.length ≤ 65536) : outP o (failT c) = .error c := by unfold outP failT; simp only; rw [if_neg (by simp; omega)]

def hexB (d : Nat) : UInt8 := if d < 10 then UInt8.ofNat (48 + d) else UInt8.ofNat (87 + d)
/-- one byte, between marks -/
def qB (c : UInt8) : List UInt8 :=
  if c.toNat = 34 ∨ c.toNat = 92 then [92, c]
  else if c.toNat = 8 then [92, 98]
  else if c.toNat = 12 then [92, 102]
  else if c.toNat = 10 then [92, 110]
  else if c.toNat = 13 then [92, 114]
  else if c.toNat = 9 then [92, 116]
  else if c.toNat < 32 then [92, 117, 48, 48, hexB (c.toNat / 16), hexB (c.toNat % 16)]
  else [c]
def qAll (l : List UInt8) : List UInt8 := l.flatMap qB
def quoteS (s : ByteArray) : List UInt8 := 34 :: (qAll s.data.toList ++ [34])
theorem qB_len (c : UInt8) : (qB c).length ≤ 6 := by unfold qB; (repeat' split) <;> simp
theorem qAll_len (l : List UInt8) : (qAll l).length ≤ 6 * l.length := by
  induction l with
  | nil => simp [qAll]
  | cons c l ih =>
    have := qB_len c
    unfold qAll at *
    rw [List.flatMap_cons, List.length_append, List.length_cons]; omega
theorem qAll_snoc (l : List UInt8) (c : UInt8) : qAll (l ++ [c]) = qAll l ++ qB c := by simp [qAll]
theorem quote_len (s : ByteArray) : (quoteS s).length ≤ 6 * s.size + 2 := by
  have := qAll_len s.data.toList
  have e : s.data.toList.length = s.size := rfl
  unfold quoteS
  rw [List.length_cons, List.length_append, List.length_singleton]; omega

/-- may keys be these? -/
def keysF : List ByteArray → List ByteArray → Bool
  | _, [] => true
  | seen, k :: r => !memB k seen && (validS k && keysF (seen ++ [k]) r)
def keysB (keys : List ByteArray) (n : Nat) : Bool := decide (keys.length = n) && keysF [] keys
theorem keysF_snoc (a : List ByteArray) : ∀ (b seen : List ByteArray), keysF seen (b ++ a) = (keysF seen b && keysF (seen ++ b) a)
  | [], seen => by simp [keysF]
  | k :: b, seen => by simp only [List.cons_append, keysF, keysF_snoc a b (seen ++ [k]), List.append_assoc, Bool.and_assoc]; rfl
theorem keysF_at {keys : List ByteArray} {i : Nat} {k : ByteArray} (hi : keys[i]? = some k) : keysF [] (keys.take (i + 1)) = (keysF [] (keys.take i) && (!memB k (keys.take i) && validS k)) := by
  rw [List.take_add_one, hi]
  simp only [Option.toList_some, keysF_snoc, List.nil_append, keysF, Bool.and_true]
theorem keysF_take {keys : List ByteArray} (n : Nat) (h : keysF [] (keys.take n) = false) : keysF [] keys = false := by
  have := keysF_snoc (keys.drop n) (keys.take n) []
  rw [List.take_append_drop] at this
  rw [this, h]; rfl
theorem keysF_valid {keys : List ByteArray} (h : keysF [] keys = true) {i : Nat} {k : ByteArray} (hi : keys[i]? = some k) : validS k = true := by
  cases hv : validS k with
  | true => rfl
  | false =>
    have h1 := keysF_at hi
    rw [hv, Bool.and_false, Bool.and_false] at h1
    rw [keysF_take _ h1] at h; cases h

def sepT (first : Bool) : Tr := if first then addT [] else addT [44]
def keyT (obj : Bool) (keys : List ByteArray) : Tr := if obj then addT (quoteS (keys.headD ⟨#[]⟩) ++ [58]) else addT []
/-- the members of a list or an object -/
def memT (val : J → Tr) (obj : Bool) : Bool → List J → List ByteArray → Tr
  | _, [], _ => addT []
  | first, x :: l, keys => (sepT first).bind ((keyT obj keys).bind ((val x).bind (memT val obj false l keys.tail)))
def trV : Nat → J → Tr
  | lv, .mk k b n s l keys =>
    if k = 0 then addT [110, 117, 108, 108]
    else if k = 1 then (if b then addT [116, 114, 117, 101] else addT [102, 97, 108, 115, 101])
    else if k = 2 then addT (Lib.itoa n)
    else if k = 3 then (if validS s then addT (quoteS s) else failT 300)
    else if k = 4 ∨ k = 5 then
      match lv with
      | 0 => failT 301
      | lv + 1 =>
        if k = 5 ∧ keysB keys l.length = false then failT 300
        else (addT [if k = 5 then 123 else 91]).bind ((memT (trV lv) (decide (k = 5)) true l keys).bind (addT [if k = 5 then 125 else 93]))
    else failT 300
/-- P3.2 -/
def printS (x : J) : Except Int (List UInt8) := outP [] (trV 16 x)

end Go.Proofs.YtbhnfehpbbibbaaDoor

namespace Go.Proofs.YtbhnfehpbbibbaaDoor
open Go.RowKit

theorem Sm.null (B : Nat) : Sm B J.null := .mk (Nat.zero_le _) (Nat.zero_le _) (Nat.zero_le _) (by intro i t h; simp at h) ⟨by decide, by decide⟩ (by intro i x h; simp at h)
theorem numS_bd {s : ByteArray} {i j : Nat} {n : Int} (h : numS s i = some (n, j)) : -9223372036854775808 ≤ n ∧ n ≤ 9223372036854775807 := by
  obtain ⟨f, hf⟩ : ∃ f, f = if bt s i = 45 then i + 1 else i := ⟨_, rfl⟩
  obtain ⟨x, k, hd⟩ : ∃ x k, digS s f 0 = (x, k) := ⟨_, _, rfl⟩
  rw [num_eq hf hd] at h
  split at h
  · cases h
  · split at h
    · split at h
      · injection h with h; injection h with h _; omega
      · cases h
    · split at h
      · injection h with h; injection h with h _; omega
      · cases h
theorem seqS_sm {s : ByteArray} {val : Nat → Except Int (J × Nat)} {obj : Bool} (hv : ∀ i x j, i ≤ s.size → val i = .ok (x, j) → i < j ∧ j ≤ s.size ∧ Sm s.size x) : ∀ {f : Nat} {first : Bool} {i j : Nat} {keys : List ByteArray} {l : List J} {x : J},
    seqS s val obj f first i keys l = .ok (x, j) → i ≤ s.size → l.length ≤ i → keys.length ≤ i → (∀ (m : Nat) (t : ByteArray), keys[m]? = some t → t.size ≤ s.size) → (∀ (m : Nat) (y : J), l[m]? = some y → Sm s.size y) → Sm s.size x
  | 0, first, i, j, keys, l, x, h, hi, _, _, _, _ => by simp [seqS] at h
  | f + 1, first, i, j, keys, l, x, h, hi, hl, hk, hks, hls => by
    rw [seq_eq] at h
    by_cases he : bt s i = (if obj then 125 else 93)
    · rw [if_pos he] at h
      injection h with h; injection h with h _
      subst h
      exact .mk (by omega) (by omega) (Nat.zero_le _) hks ⟨by decide, by decide⟩ hls
    · rw [if_neg he] at h
      by_cases hc : (!first && bt s i != 44) = true
      · rw [if_pos hc] at h; cases h
      · rw [if_neg hc] at h
        have h1 : i ≤ (if first then i else whS s (i + 1)) ∧ (if first then i else whS s (i + 1)) ≤ s.size := by
          cases first with
          | true => simp; omega
          | false =>
            simp at hc
            have := bt_in (s := s) (i := i) (by omega)
            have := whS_le s (i + 1) (by omega)
            simp; omega
        generalize (if first then i else whS s (i + 1)) = i1 at h h1
        have snoc : ∀ (y : J), Sm s.size y → ∀ (m : Nat) (z : J), (l ++ [y])[m]? = some z → Sm s.size z := by
          intro y hy m z hz
          by_cases hm : m < l.length
          · rw [List.getElem?_append_left hm] at hz; exact hls m z hz
          · rw [List.getElem?_append_right (by omega)] at hz
            have : m - l.length = 0 := by
              have := (List.getElem?_eq_some_iff.1 hz).1
              simp at this; omega
            rw [this] at hz; simp at hz; subst hz; exact hy
        unfold memS at h
        split at h
        · cases ht : textS s i1 with
          | none => rw [ht] at h; cases h
          | some p =>
            obtain ⟨key, i2⟩ := p
            rw [ht] at h
            have h2 := textS_in ht
            have h3 := whS_le s i2 h2.2.1
            simp only at h
            split at h
            · cases h
            · split at h
              · have := bt_in (s := s) (i := whS s i2) (by omega)
                have h4 := whS_le s (whS s i2 + 1) (by omega)
                cases hval : val (whS s (whS s i2 + 1)) with
                | error e => rw [hval] at h; cases h
                | ok q =>
                  obtain ⟨y, i3⟩ := q
                  rw [hval] at h
                  have h5 := hv _ _ _ h4.2 hval
                  have h6 := whS_le s i3 h5.2.1
                  refine seqS_sm hv h h6.2 (by rw [List.length_append]; simp; omega) (by rw [List.length_append]; simp; omega) ?_ (snoc y h5.2.2)
                  intro m t hmt
                  by_cases hm : m < keys.length
                  · rw [List.getElem?_append_left hm] at hmt; exact hks m t hmt
                  · rw [List.getElem?_append_right (by omega)] at hmt
                    have : m - keys.length = 0 := by
                      have := (List.getElem?_eq_some_iff.1 hmt).1
                      simp at this; omega
                    rw [this] at hmt; simp at hmt; subst hmt; omega
              · cases h
        · cases hval : val i1 with
          | error e => rw [hval] at h; cases h
          | ok q =>
            obtain ⟨y, i3⟩ := q
            rw [hval] at h
            have h5 := hv _ _ _ h1.2 hval
            have h6 := whS_le s i3 h5.2.1
            exact seqS_sm hv h h6.2 (by rw [List.length_append]; simp; omega) (by omega) hks (snoc y h5.2.2)
theorem valS_sm (s : ByteArray) : ∀ (lv i : Nat) (x : J) (j : Nat), i ≤ s.size → valS s lv i = .ok (x, j) → Sm s.size x := by
  have leaf : ∀ (k : Int) (b : Bool) (n : Int) (t : ByteArray), t.size ≤ s.size → -9223372036854775808 ≤ n ∧ n ≤ 9223372036854775807 → Sm s.size (.mk k b n t [] []) :=
    fun k b n t ht hn => .mk (Nat.zero_le _) (Nat.zero_le _) ht (by intro i t h; simp at h) hn (by intro i x h; simp at h)
  have gen : ∀ (lv : Nat), (∀ (i : Nat) (x : J) (j : Nat), i < s.size → innerS s lv i (decide (bt s i = 123)) = .ok (x, j) → Sm s.size x) → ∀ (i : Nat) (x : J) (j : Nat), i ≤ s.size → valS s lv i = .ok (x, j) → Sm s.size x := by
    intro lv hin i x j hi h
    rw [valS_eq] at h
    split at h
    · split at h
      · injection h with h; injection h with h _; subst h; exact leaf _ _ _ _ (Nat.zero_le _) ⟨by decide, by decide⟩
      · cases h
    · split at h
      · split at h
        · injection h with h; injection h with h _; subst h; exact leaf _ _ _ _ (Nat.zero_le _) ⟨by decide, by decide⟩
        · cases h
      · split at h
        · split at h
          · injection h with h; injection h with h _; subst h; exact leaf _ _ _ _ (Nat.zero_le _) ⟨by decide, by decide⟩
          · cases h
        · split at h
          · cases ht : txtS s (i + 1) with
            | none => rw [ht] at h; cases h
            | some p =>
              obtain ⟨t, k⟩ := p
              rw [ht] at h
              have := txtF_in ht
              simp at this
              injection h with h; injection h with h _; subst h
              exact leaf _ _ _ _ (by omega) ⟨by decide, by decide⟩
          · split at h
            · rename_i hq
              exact hin i x j (bt_in (by omega)) h
            · cases hn : numS s i with
              | none => rw [hn] at h; cases h
              | some p =>
                obtain ⟨n, k⟩ := p
                rw [hn] at h
                injection h with h; injection h with h _; subst h
                exact leaf _ _ _ _ (Nat.zero_le _) (numS_bd hn)
  intro lv
  induction lv with
  | zero => exact gen 0 (fun i x j _ h => by cases h)
  | succ lv ih =>
    refine gen (lv + 1) (fun i x j hl h => ?_)
    have h1 := whS_le s (i + 1) (by omega)
    exact seqS_sm (fun i x j hi h => ⟨(valS_in s lv i x j hi h).1, (valS_in s lv i x j hi h).2, ih i x j hi h⟩) (show seqS s (valS s lv) _ _ _ _ _ _ = _ from h) h1.2 (Nat.zero_le _) (Nat.zero_le _) (by intro m t h; simp at h) (by intro m t h; simp at h)
/-- the value that a text is parsed to; where it is none: null -/
def pX (s : ByteArray) : J := match parseS s with | .ok x => x | .error _ => J.null
def pE (s : ByteArray) : Int := match parseS s with | .ok _ => 0 | .error c => c
theorem pX_sm (s : ByteArray) : Sm 65536 (pX s) := by
  unfold pX
  cases h : parseS s with
  | error c => exact Sm.null _
  | ok x =>
    unfold parseS at h
    split at h
    · cases h
    · have hs : s.size ≤ 65536 := by omega
      cases hv : valS s 16 (whS s 0) with
      | error e => rw [hv] at h; cases h
      | ok p =>
        obtain ⟨y, i⟩ := p
        rw [hv] at h
        simp only at h
        split at h
        · injection h with h; subst h
          have hm := valS_sm s 16 _ _ _ (whS_le s 0 (Nat.zero_le _)).2 hv
          have up : ∀ {x : J}, Sm s.size x → Sm 65536 x := by
            intro x hx
            induction hx with
            | mk hl hk hs2 hks hn hrec ih => exact .mk (by omega) (by omega) (by omega) (fun i t ht => by have := hks i t ht; omega) hn ih
          exact up hm
        · cases h

end Go.Proofs.YtbhnfehpbbibbaaDoor

namespace Go.Proofs.YtbhnfehpbbibbaaDoor
open Go.RowKit

/-- all stays but what block g holds, and rows of bytes from there on -/
structure PFr (g : Nat) (w w' : World) : Prop where
  os : w'.os = w.os
  tape : w'.tape = w.tape
  output : w'.output = w.output
  size : w.heap.size ≤ w'.heap.size
  block : ∀ k, k < w.heap.size → (k < g ∨ (k ≠ g ∧ ∀ cs fr, w.heap[k]? ≠ some (.cells cs 5 fr))) → w'.heap[k]? = w.heap[k]?
theorem PFr.refl (g : Nat) (w : World) : PFr g w w := ⟨rfl, rfl, rfl, Nat.le_refl _, fun _ _ _ => rfl⟩
theorem PFr.trans {g : Nat} {a b c : World} (h : PFr g a b) (k : PFr g b c) : PFr g a c :=
  ⟨k.os.trans h.os, k.tape.trans h.tape, k.output.trans h.output, Nat.le_trans h.size k.size, fun i hi hc => by
    have e := h.block i hi hc
    refine (k.block i (Nat.lt_of_lt_of_le hi h.size) ?_).trans e
    rcases hc with hc | ⟨h1, h2⟩
    · exact .inl hc
    · exact .inr ⟨h1, fun cs fr => by rw [e]; exact h2 cs fr⟩⟩
theorem PFr.below {g : Nat} {a b : World} (h : Below a.heap.size a b) : PFr g a b := ⟨h.os, h.tape, h.output, h.size, fun k hk _ => h.block k hk⟩
theorem PFr.but {g : Nat} {a b : World} (h : But g a b) : PFr g a b := ⟨h.os, h.tape, h.output, h.size, fun k hk hc => h.block k hk (by rcases hc with h | h <;> omega)⟩
theorem PFr.toBelow {g : Nat} {a b : World} (h : PFr g a b) (hg : g ≤ a.heap.size) : Below g a b := ⟨h.os, h.tape, h.output, h.size, fun k hk => h.block k (by omega) (.inl hk)⟩

/-- the program's printer at block g: its row, what it holds -/
def PW (w : World) (g : Nat) (v : Value) (o : List UInt8) : Prop := w.heap[g]? = some (.cells #[v] 55 (0, 0)) ∧ BRow w (g + 1) v o
/-- the reference's: the first error besides -/
def RW (w : World) (g : Nat) (v : Value) (o : List UInt8) (c : Int) : Prop := w.heap[g]? = some (.cells #[v, .int .i64 c] 60 (0, 0)) ∧ BRow w (g + 1) v o

theorem brow_tag {w : World} {base : Nat} {v : Value} {o : List UInt8} (h : BRow w base v o) {j : Nat} (hj : v.ownBlock = some j) : ∃ cs fr, w.heap[j]? = some (.cells cs 5 fr) := by
  obtain ⟨h1, h2⟩ := h
  rcases h2 with ⟨rfl, h2⟩ | ⟨b, cap, cur, rfl, hg, hh, _⟩
  · cases hj
  · injection hj with hj; simp only at hj; subst hj; exact ⟨_, _, hh⟩
theorem brow_ne {w : World} {g : Nat} {v : Value} {o : List UInt8} (h : BRow w (g + 1) v o) {k : Nat} (hk : k < g ∨ (k ≠ g ∧ ∀ cs fr, w.heap[k]? ≠ some (.cells cs 5 fr))) : some k ≠ v.ownBlock := by
  intro e
  obtain ⟨cs, fr, ht⟩ := brow_tag h e.symm
  have := (h.lt k e.symm).1
  rcases hk with hk | ⟨h1, h2⟩
  · omega
  · exact h2 cs fr ht
theorem PFr.grown {g : Nat} {a w w' : World} {v : Value} {o : List UInt8} (h : PFr g a w) (hr : BRow w (g + 1) v o) (hg : w.grownBy w' v.ownBlock) : PFr g a w' :=
  h.trans ⟨hg.os, hg.tape, hg.output, hg.size, fun k hk hc => hg.block k hk (brow_ne hr hc)⟩
theorem PFr.set {g : Nat} {a w : World} (h : PFr g a w) (o : Nat) (v : Value) : PFr g a (w.setCell ⟨g, o, none⟩ v) := h.trans (.but ((But.refl g w).setOwn o v))
theorem PFr.alloc {g : Nat} {a w : World} (h : PFr g a w) (o : Obj) : PFr g a (w.alloc o) := h.trans (.below ((Below.refl _ _).alloc (Nat.le_refl _) o))
theorem PFr.drewN {g : Nat} {a w : World} (h : PFr g a w) (n : Nat) : PFr g a (w.drewN n) := h.trans (.below (below_drewN (Below.refl _ _) n))
theorem brow_set {w : World} {g : Nat} {v : Value} {o : List UInt8} (h : BRow w (g + 1) v o) (i : Nat) (x : Value) : BRow (w.setCell ⟨g, i, none⟩ x) (g + 1) v o :=
  h.but ((But.refl g w).setOwn i x) (Nat.lt_succ_self g)

theorem PW.lt {w g v o} (h : PW w g v o) : g < w.heap.size := (Array.getElem?_eq_some_iff.1 h.1).1
theorem PW.c0 {w g v o} (h : PW w g v o) : w.cell? ⟨g, 0, none⟩ = some v := by have := h.1; simp [World.cell?, this]
theorem PW.f0 {w g v o} (h : PW w g v o) : w.frozen? ⟨g, 0, none⟩ = false := by have := h.1; simp [World.frozen?, this]
theorem PW.below {w w' g v o} (h : PW w g v o) (hb : Below w.heap.size w w') : PW w' g v o := ⟨(hb.block g h.lt).trans h.1, h.2.below hb⟩
theorem PW.alloc {w g v o} (h : PW w g v o) (x : Obj) : PW (w.alloc x) g v o := h.below ((Below.refl _ _).alloc (Nat.le_refl _) x)
theorem PW.drewN {w g v o} (h : PW w g v o) (n : Nat) : PW (w.drewN n) g v o := h.below (below_drewN (Below.refl _ _) n)
theorem RW.lt {w g v o c} (h : RW w g v o c) : g < w.heap.size := (Array.getElem?_eq_some_iff.1 h.1).1
theorem RW.c0 {w g v o c} (h : RW w g v o c) : w.cell? ⟨g, 0, none⟩ = some v := by have := h.1; simp [World.cell?, this]
theorem RW.c1 {w g v o c} (h : RW w g v o c) : w.cell? ⟨g, 1, none⟩ = some (.int .i64 c) := by have := h.1; simp [World.cell?, this]
theorem RW.f {w g v o c} (h : RW w g v o c) (i : Nat) : w.frozen? ⟨g, i, none⟩ = false := by have := h.1; simp [World.frozen?, this]
theorem RW.below {w w' g v o c} (h : RW w g v o c) (hb : Below w.heap.size w w') : RW w' g v o c := ⟨(hb.block g h.lt).trans h.1, h.2.below hb⟩
theorem RW.alloc {w g v o c} (h : RW w g v o c) (x : Obj) : RW (w.alloc x) g v o c := h.below ((Below.refl _ _).alloc (Nat.le_refl _) x)
theorem RW.drewN {w g v o c} (h : RW w g v o c) (n : Nat) : RW (w.drewN n) g v o c := h.below (below_drewN (Below.refl _ _) n)
theorem RW.setCode {w g v o c} (h : RW w g v o c) (d : Int) : RW (w.setCell ⟨g, 1, none⟩ (.int .i64 d)) g v o d := ⟨blk_set h.1 1 _, brow_set h.2 _ _⟩

/-- behind an append to the row: the new row stored -/
theorem PW.stored {w w' : World} {g : Nat} {v v' : Value} {o o' : List UInt8} (h : PW w g v o) (hg : w.grownBy w' v.ownBlock) (hn : BRow w' (g + 1) v' o') : PW (w'.setCell ⟨g, 0, none⟩ v') g v' o' :=
  ⟨blk_set ((hg.block g h.lt (own_ne h.2 (Nat.lt_succ_self g))).trans h.1) 0 v', brow_set hn 0 v'⟩
theorem RW.stored {w w' : World} {g : Nat} {v v' : Value} {o o' : List UInt8} {c : Int} (h : RW w g v o c) (hg : w.grownBy w' v.ownBlock) (hn : BRow w' (g + 1) v' o') : RW (w'.setCell ⟨g, 0, none⟩ v') g v' o' c :=
  ⟨blk_set ((hg.block g h.lt (own_ne h.2 (Nat.lt_succ_self g))).trans h.1) 0 v', brow_set hn 0 v'⟩

/-- what the printer's functions come to -/
def PPost (g : Nat) (r : Except Int (List UInt8)) (w : World) (e : Ending) (w' : World) : Prop :=
  match r with
  | .error c => e = .panicked (fault c) ∧ PFr g w w'
  | .ok o => ∃ v, e = .returned (.tuple #[]) ∧ PW w' g v o ∧ PFr g w w'
theorem PPost.no {g r w e w' c} (h : r = .error c) (he : e = .panicked (fault c)) (hf : PFr g w w') : PPost g r w e w' := by rw [h]; exact ⟨he, hf⟩
theorem PPost.yes {g r w e w' o v} (h : r = .ok o) (he : e = .returned (.tuple #[])) (hp : PW w' g v o) (hf : PFr g w w') : PPost g r w e w' := by rw [h]; exact ⟨v, he, hp, hf⟩
theorem PPost.at_error {g r w e w' c} (q : PPost g r w e w') (h : r = .error c) : e = .panicked (fault c) ∧ PFr g w w' := by rw [h] at q; exact q
theorem PPost.at_ok {g r w e w' o} (q : PPost g r w e w') (h : r = .ok o) : ∃ v, e = .returned (.tuple #[]) ∧ PW w' g v o ∧ PFr g w w' := by rw [h] at q; exact q

theorem PPost.frame {g r w e w'} (q : PPost g r w e w') : PFr g w w' := by
  unfold PPost at q
  split at q
  · exact q.2
  · obtain ⟨_, _, _, h⟩ := q; exact h

set_option maxRecDepth 100000 in
set_option maxHeartbeats 1000000 in
theorem add_any (g : Nat) (v : Value) (o : List UInt8) (s : ByteArray) (w : World) (h : PW w g v o) (ho : o.length ≤ 65536) (hs : s.size ≤ 140737488289792) :
    Calls Tryd.prog 36 #[.pointer (some ⟨g, 0, none⟩), .string s] w (PPost g (outP o (addT s.data.toList)) w) := by
  have hsl : s.data.toList.length = s.size := rfl
  have HSL := Lib.hid hsl
  obtain ⟨i0, hinfo, hz0, hz1, hz2⟩ := info_parts uinfo
  have HP := Lib.hid h
  have hgl := h.lt
  have k0 := h.c0
  have f0 := h.f0
  have hlen : Hid ((o ++ s.data.toList).length = o.length + s.size) := List.length_append
  clear h hsl
  go_enter Tryd.func36, Tryd.ntmps36
  go_wp2_with (at_builtin; refine Lib.wpList_append_own_string _ rfl _ _ 53 9 rfl (g + 1) 5 i0 Tryd.underlying53 Tryd.underlying9 hinfo hz0 hz1 hz2 _ o.length _ rfl HP.out.2 s rfl (by unfold maxLen; omega) (by omega) (by omega) ?_)
  intro v5 w5 hown hgr _
  have hB : BRow w5 (g + 1) v5 (o ++ s.data.toList) := BRow.app hown rfl
  have HW : Hid (PW (w5.setCell ⟨g, 0, none⟩ v5) g v5 (o ++ s.data.toList) ∧ PFr g w (w5.setCell ⟨g, 0, none⟩ v5)) := ⟨HP.out.stored hgr hB, ((PFr.refl g w).grown HP.out.2 hgr).set 0 v5⟩
  have J5 : w5.heap[g]? = some (.cells #[v] 55 (0, 0)) := (hgr.block g hgl (own_ne HP.out.2 (Nat.lt_succ_self g))).trans HP.out.1
  have f5 : w5.frozen? ⟨g, 0, none⟩ = false := by simp [World.frozen?, J5]
  have k5 : w5.cell? ⟨g, 0, none⟩ = some v := by simp [World.cell?, J5]
  obtain ⟨A, c, rfl⟩ := own_form hown
  clear hown hgr hB J5 k0 f0
  by_cases hlong : 65536 < o.length + s.size
  · have HE : Hid (outP o (addT s.data.toList) = .error 302) := outP_long (by show 65536 < o.length + s.data.toList.length; rw [HSL.out]; exact hlong)
    go_wp2_with fail
    exact ⟨rfl, PPost.no HE.out rfl HW.out.2⟩
  · have HE : Hid (outP o (addT s.data.toList) = .ok (o ++ s.data.toList)) := outP_add (by rw [HSL.out]; exact hlong)
    go_wp2_with fail
    go_end0
    exact PPost.yes HE.out rfl HW.out.1 HW.out.2

end Go.Proofs.YtbhnfehpbbibbaaDoor
