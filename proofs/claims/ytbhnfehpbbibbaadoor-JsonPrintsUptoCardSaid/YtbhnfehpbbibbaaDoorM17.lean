/- The reference's parser: how its answers lie in memory; what holds of the list or object that it reads, round by round; its plain functions. The reference's parser: list, from what value comes to. -/
import Derived.Test.YtbhnfehpbbibbaaDoorM16
import Derived.Deep.AppendLies
import Derived.Deep.RegionWith
import Derived.Deep.RegionHeld3
import Derived.Deep.RegionLaw

namespace Go.Proofs.YtbhnfehpbbibbaaDoor
open Go.RowKit

theorem RS.only {w w' : World} {g s i c R} (h : RS w g s i c) (ho : Only R w w') (hne : g ≠ R) : RS w' g s i c := (ho.block g hne).trans h

/-- a value, as the reference reads it; lv: how many lists and objects may still be opened -/
def rvalS (s : ByteArray) : Nat → Nat → Except Int (J × Nat)
  | lv, i =>
    if bt s i = 110 then (if wordB s i ⟨#[110, 117, 108, 108]⟩ then .ok (.null, i + 4) else .error 300)
    else if bt s i = 116 then (if wordB s i ⟨#[116, 114, 117, 101]⟩ then .ok (.mk 1 true 0 ⟨#[]⟩ [] [], i + 4) else .error 300)
    else if bt s i = 102 then (if wordB s i ⟨#[102, 97, 108, 115, 101]⟩ then .ok (.mk 1 false 0 ⟨#[]⟩ [] [], i + 5) else .error 300)
    else if bt s i = 34 then (match txtS s (i + 1) with | none => .error 300 | some (t, j) => .ok (.mk 3 false 0 t [] [], j))
    else if bt s i = 91 ∨ bt s i = 123 then
      match lv with
      | 0 => .error 301
      | lv + 1 => seqS s (rvalS s lv) (decide (bt s i = 123)) (s.size + 1) true (whS s (i + 1)) [] []
    else match rnumS s i with | none => .error 300 | some (n, j) => .ok (.mk 2 false n ⟨#[]⟩ [] [], j)
def rinnerS (s : ByteArray) (lv i : Nat) (obj : Bool) : Except Int (J × Nat) :=
  match lv with
  | 0 => .error 301
  | lv + 1 => seqS s (rvalS s lv) obj (s.size + 1) true (whS s (i + 1)) [] []
theorem rvalS_eq (s : ByteArray) (lv i : Nat) : rvalS s lv i =
    if bt s i = 110 then (if wordB s i ⟨#[110, 117, 108, 108]⟩ then .ok (.null, i + 4) else .error 300)
    else if bt s i = 116 then (if wordB s i ⟨#[116, 114, 117, 101]⟩ then .ok (.mk 1 true 0 ⟨#[]⟩ [] [], i + 4) else .error 300)
    else if bt s i = 102 then (if wordB s i ⟨#[102, 97, 108, 115, 101]⟩ then .ok (.mk 1 false 0 ⟨#[]⟩ [] [], i + 5) else .error 300)
    else if bt s i = 34 then (match txtS s (i + 1) with | none => .error 300 | some (t, j) => .ok (.mk 3 false 0 t [] [], j))
    else if bt s i = 91 ∨ bt s i = 123 then rinnerS s lv i (decide (bt s i = 123))
    else match rnumS s i with | none => .error 300 | some (n, j) => .ok (.mk 2 false n ⟨#[]⟩ [] [], j) := by
  cases lv <;> rfl

theorem rnumS_in {s : ByteArray} {i j : Nat} {n : Int} (h : rnumS s i = some (n, j)) (hi : i ≤ s.size) : i < j ∧ j ≤ s.size := by
  unfold rnumS at h
  cases hn : numS s i with
  | none => rw [hn] at h; cases h
  | some q =>
    obtain ⟨m, k⟩ := q
    rw [hn] at h
    have := numS_in hn hi
    simp only at h
    split at h
    · cases h
    · injection h with h; injection h with _ h; omega
theorem rvalS_in (s : ByteArray) : ∀ (lv i : Nat) (x : J) (j : Nat), i ≤ s.size → rvalS s lv i = .ok (x, j) → i < j ∧ j ≤ s.size := by
  intro lv
  induction lv with
  | zero =>
    intro i x j hi h
    rw [rvalS_eq] at h
    split at h
    · split at h
      · rename_i hw; have hq : i + 4 ≤ s.size := wordB_in hw hi; injection h with h; injection h with _ h; omega
      · cases h
    · split at h
      · split at h
        · rename_i hw; have hq : i + 4 ≤ s.size := wordB_in hw hi; injection h with h; injection h with _ h; omega
        · cases h
      · split at h
        · split at h
          · rename_i hw; have hq : i + 5 ≤ s.size := wordB_in hw hi; injection h with h; injection h with _ h; omega
          · cases h
        · split at h
          · rename_i hq
            cases ht : txtS s (i + 1) with
            | none => rw [ht] at h; cases h
            | some p =>
              obtain ⟨t, k⟩ := p
              rw [ht] at h
              have := txtF_in ht
              injection h with h; injection h with _ h; omega
          · split at h
            · cases h
            · cases hn : rnumS s i with
              | none => rw [hn] at h; cases h
              | some p =>
                obtain ⟨n, k⟩ := p
                rw [hn] at h
                have := rnumS_in hn hi
                injection h with h; injection h with _ h; omega
  | succ lv ih =>
    intro i x j hi h
    rw [rvalS_eq] at h
    split at h
    · split at h
      · rename_i hw; have hq : i + 4 ≤ s.size := wordB_in hw hi; injection h with h; injection h with _ h; omega
      · cases h
    · split at h
      · split at h
        · rename_i hw; have hq : i + 4 ≤ s.size := wordB_in hw hi; injection h with h; injection h with _ h; omega
        · cases h
      · split at h
        · split at h
          · rename_i hw; have hq : i + 5 ≤ s.size := wordB_in hw hi; injection h with h; injection h with _ h; omega
          · cases h
        · split at h
          · rename_i hq
            cases ht : txtS s (i + 1) with
            | none => rw [ht] at h; cases h
            | some p =>
              obtain ⟨t, k⟩ := p
              rw [ht] at h
              have := txtF_in ht
              injection h with h; injection h with _ h; omega
          · split at h
            · rename_i hq
              have hl := bt_in (s := s) (i := i) (by omega)
              have h1 := whS_le s (i + 1) (by omega)
              have h2 := seqS_in (fun i x j hi h => ih i x j hi h) (show seqS s (rvalS s lv) _ _ _ _ _ _ = _ from h) h1.2
              omega
            · cases hn : rnumS s i with
              | none => rw [hn] at h; cases h
              | some p =>
                obtain ⟨n, k⟩ := p
                rw [hn] at h
                have := rnumS_in hn hi
                injection h with h; injection h with _ h; omega

/-- what the reference's value, list and object come to: some value of JSON always; the error stands in the parser -/
def RJPost (g : Nat) (s : ByteArray) (r : Except Int (J × Nat)) (w : World) (e : Ending) (w' : World) : Prop :=
  ∃ a b c d Lv Kv x j code, j ≤ s.size ∧ Got g s w (.agg #[a, b, c, d, Lv, Kv]) j code e w' ∧ JRep w' (fun k => w.heap.size ≤ k) [a, b, c, d, Lv, Kv] x ∧
    match r with | .error n => code = n ∧ n ≠ 0 | .ok (y, k) => code = 0 ∧ x = y ∧ j = k
theorem RJPost.no {g s r w e w' n a b c d Lv Kv x j} (h : r = .error n) (hn : n ≠ 0) (hj : j ≤ s.size) (q : Got g s w (.agg #[a, b, c, d, Lv, Kv]) j n e w') (h1 : JRep w' (fun k => w.heap.size ≤ k) [a, b, c, d, Lv, Kv] x) : RJPost g s r w e w' := by
  rw [h]; exact ⟨a, b, c, d, Lv, Kv, x, j, n, hj, q, h1, rfl, hn⟩
theorem RJPost.yes {g s r w e w' a b c d Lv Kv x j} (h : r = .ok (x, j)) (hj : j ≤ s.size) (q : Got g s w (.agg #[a, b, c, d, Lv, Kv]) j 0 e w') (h1 : JRep w' (fun k => w.heap.size ≤ k) [a, b, c, d, Lv, Kv] x) : RJPost g s r w e w' := by
  rw [h]; exact ⟨a, b, c, d, Lv, Kv, x, j, 0, hj, q, h1, rfl, rfl, rfl⟩

def RListC (lv : Nat) : Prop := ∀ (g : Nat) (s : ByteArray) (i : Nat) (D : Int) (w : World), s.size ≤ 65536 → i < s.size → RS w g s i 0 → D + lv = 17 →
  Calls Tryd.prog 33 #[.pointer (some ⟨g, 0, none⟩), .int .i64 D] w (RJPost g s (rinnerS s lv i false) w)
def RObjC (lv : Nat) : Prop := ∀ (g : Nat) (s : ByteArray) (i : Nat) (D : Int) (w : World), s.size ≤ 65536 → i < s.size → RS w g s i 0 → D + lv = 17 →
  Calls Tryd.prog 34 #[.pointer (some ⟨g, 0, none⟩), .int .i64 D] w (RJPost g s (rinnerS s lv i true) w)
def RValueC (lv : Nat) : Prop := ∀ (g : Nat) (s : ByteArray) (i : Nat) (D : Int) (w : World), s.size ≤ 65536 → i ≤ s.size → RS w g s i 0 → D + lv = 16 →
  Calls Tryd.prog 19 #[.pointer (some ⟨g, 0, none⟩), .int .i64 D] w (RJPost g s (rvalS s lv i) w)

/-! ### what holds at the head of a round -/
structure RListI (s : ByteArray) (g R B base : Nat) (obj : Bool) (w wr : World) (k : Nat) (c : Int) (keys : List ByteArray) (l : List J) (Lv Kv : Value) (css : List (List Value)) : Prop where
  rs : RS wr g s k c
  but : But g w wr
  res : JB wr R (.int .i64 0) (.bool false) (.int .i64 0) (.string ⟨#[]⟩) (.slice none 0 0) (.slice none 0 0)
  out : JB wr B (.int .i64 (if obj then 5 else 4)) (.bool false) (.int .i64 0) (.string ⟨#[]⟩) Lv Kv
  ownL : wr.ownsRow base 25 6 Lv l.length css.flatten
  cssl : css.length = l.length
  six : ∀ c ∈ css, c.length = 6
  rep : ∀ (i : Nat) (cs : List Value) (x : J), css[i]? = some cs → l[i]? = some x → JRep wr (okE base Lv Kv) cs x
  ownK : wr.ownsRow base 9 1 Kv keys.length (keys.map Value.string)
  kle : k ≤ s.size
  ble : base ≤ wr.heap.size
theorem RListI.next {s : ByteArray} {g R B base : Nat} {obj : Bool} {w wr w' : World} {k k' : Nat} {c c' : Int} {keys : List ByteArray} {l : List J} {Lv Kv : Value} {css : List (List Value)} (h : RListI s g R B base obj w wr k c keys l Lv Kv css)
    (hord : g < R ∧ R < base ∧ g < B ∧ B < base) (hp : RS w' g s k' c') (hb : But g wr w') (h2 : k' ≤ s.size) : RListI s g R B base obj w w' k' c' keys l Lv Kv css where
  rs := hp
  but := h.but.trans hb
  res := h.res.but hb (by omega)
  out := h.out.but hb (by omega)
  ownL := own_but h.ownL hb (by omega)
  cssl := h.cssl
  six := h.six
  rep := fun i cs x hi hx => (h.rep i cs x hi hx).mono fun b hb1 hlt => ⟨hb1, hb.block b hlt (by have := hb1.1; omega)⟩
  ownK := own_but h.ownK hb (by omega)
  kle := h2
  ble := by have := h.ble; have := hb.size; omega
theorem RListI.rep_end {s : ByteArray} {g R B base : Nat} {obj : Bool} {w wr : World} {k : Nat} {c : Int} {keys : List ByteArray} {l : List J} {Lv Kv : Value} {css : List (List Value)} (h : RListI s g R B base obj w wr k c keys l Lv Kv css) :
    JRep wr (fun b => base ≤ b) [.int .i64 (if obj then 5 else 4), .bool false, .int .i64 0, .string ⟨#[]⟩, Lv, Kv] (.mk (if obj then 5 else 4) false 0 ⟨#[]⟩ l keys) :=
  .mk css h.cssl (own_row h.ownL h.cssl.symm h.six) (fun i cs x hi hx => (h.rep i cs x hi hx).mono fun b hb1 _ => ⟨hb1.1, rfl⟩)
    (own_row (sz := 1) (css := keys.map fun t => [Value.string t]) (by rw [flat1]; exact h.ownK) (by simp) (by simp))
/-- behind the store of a new row of keys -/
theorem RListI.addKey {s : ByteArray} {g R B base : Nat} {obj : Bool} {w wr wa wb : World} {k : Nat} {c : Int} {keys : List ByteArray} {l : List J} {Lv Kv Kv' : Value} {css : List (List Value)} {t : ByteArray} (h : RListI s g R B base obj w wr k c keys l Lv Kv css)
    (hord : g < R ∧ R < base ∧ g < B ∧ B < base) (hw : g < w.heap.size ∧ w.heap.size ≤ R ∧ w.heap.size ≤ B) (hRB : R ≠ B)
    (hga : Below wr.heap.size wr wa)
    (hown : wb.ownsRow base 9 1 Kv' (keys.length + 1) (keys.map Value.string ++ [.string t])) (hgb : wa.grownBy wb Kv.ownBlock) (hnew : ∀ j, Kv'.ownBlock = some j → Kv.ownBlock = some j ∨ wr.heap.size ≤ j) : RListI s g R B base obj w (wb.setCell ⟨B, 5, none⟩ Kv') k c (keys ++ [t]) l Lv Kv' css := by
  have hK := World.ownsRow.lt h.ownK
  have hL := World.ownsRow.lt h.ownL
  have hLK := own_ne_types h.ownK h.ownL (by decide)
  have hgK : ∀ z, z < base → some z ≠ Kv.ownBlock := fun z hz e => by have := (hK z e.symm).1; omega
  have hsz := hga.size
  have hg2 : ∀ z, z < wr.heap.size → some z ≠ Kv.ownBlock → wb.heap[z]? = wr.heap[z]? := fun z hz hzK =>
    (hgb.block z (by omega) hzK).trans (hga.block z hz)
  have hJ : JB wb B (.int .i64 (if obj then 5 else 4)) (.bool false) (.int .i64 0) (.string ⟨#[]⟩) Lv Kv := (hg2 B h.out.lt (hgK B (by omega))).trans h.out
  have ho : Only B wb (wb.setCell ⟨B, 5, none⟩ Kv') := (Only.refl B wb).set 5 Kv'
  refine ⟨?_, ?_, ?_, hJ.set5 Kv', ?_, h.cssl, h.six, ?_, ?_, h.kle, ?_⟩
  · exact RS.only ((hg2 g h.rs.lt (hgK g (by omega))).trans h.rs) ho (by omega)
  · refine But.only ?_ ho (by omega)
    exact (h.but.trans (.below hga)).grown hgb (fun j hj => by have := (hK j hj).1; omega)
  · exact (ho.block R hRB).trans ((hg2 R h.res.lt (hgK R (by omega))).trans h.res)
  · refine own_only ?_ ho (by omega)
    have g1 : wr.grownBy wa none := ⟨hga.os, hga.tape, hga.output, hga.size, fun k hk _ => hga.block k hk⟩
    refine World.ownsRow.kept (World.ownsRow.kept h.ownL g1 (by cases Lv.ownBlock <;> simp)) hgb ?_
    cases hLo : Lv.ownBlock with
    | none => exact .inl rfl
    | some z => exact .inr (fun e => hLK z e.symm hLo)
  · intro i cs x hi hx
    refine (h.rep i cs x hi hx).mono fun b hb1 hlt => ⟨⟨hb1.1, hb1.2.1, fun e => ?_⟩, (ho.block b (by have := hb1.1; omega)).trans (hg2 b hlt (fun e => hb1.2.2 e.symm))⟩
    rcases hnew b e with h3 | h3
    · exact hb1.2.2 h3
    · omega
  · refine own_only ?_ ho (by omega)
    rw [List.length_append, List.map_append]; exact hown
  · rw [ho.size]; have := hgb.size; have := h.ble; omega
/-- behind the store of a new row of members -/
theorem RListI.addMember {s : ByteArray} {g R B base : Nat} {obj : Bool} {w wr wa wb : World} {k : Nat} {c : Int} {keys : List ByteArray} {l : List J} {Lv Kv Lv' : Value} {css : List (List Value)} {x : J} {cs : List Value} (h : RListI s g R B base obj w wr k c keys l Lv Kv css)
    (hord : g < R ∧ R < base ∧ g < B ∧ B < base) (hw : g < w.heap.size ∧ w.heap.size ≤ R ∧ w.heap.size ≤ B) (hRB : R ≠ B)
    (hga : Below wr.heap.size wr wa) (hrep : JRep wr (fun b => base ≤ b ∧ Lv.ownBlock ≠ some b ∧ Kv.ownBlock ≠ some b) cs x) (hlen : cs.length = 6)
    (hown : wb.ownsRow base 25 6 Lv' (l.length + 1) (css.flatten ++ cs)) (hgb : wa.grownBy wb Lv.ownBlock) (hnew : ∀ j, Lv'.ownBlock = some j → Lv.ownBlock = some j ∨ wr.heap.size ≤ j) : RListI s g R B base obj w (wb.setCell ⟨B, 4, none⟩ Lv') k c keys (l ++ [x]) Lv' Kv (css ++ [cs]) := by
  have hK := World.ownsRow.lt h.ownK
  have hL := World.ownsRow.lt h.ownL
  have hLK := own_ne_types h.ownL h.ownK (by decide)
  have hgL : ∀ z, z < base → some z ≠ Lv.ownBlock := fun z hz e => by have := (hL z e.symm).1; omega
  have hsz := hga.size
  have hg2 : ∀ z, z < wr.heap.size → some z ≠ Lv.ownBlock → wb.heap[z]? = wr.heap[z]? := fun z hz hzK =>
    (hgb.block z (by omega) hzK).trans (hga.block z hz)
  have hJ : JB wb B (.int .i64 (if obj then 5 else 4)) (.bool false) (.int .i64 0) (.string ⟨#[]⟩) Lv Kv := (hg2 B h.out.lt (hgL B (by omega))).trans h.out
  have ho : Only B wb (wb.setCell ⟨B, 4, none⟩ Lv') := (Only.refl B wb).set 4 Lv'
  have hrep2 : ∀ (cs : List Value) (x : J), JRep wr (okE base Lv Kv) cs x → JRep (wb.setCell ⟨B, 4, none⟩ Lv') (okE base Lv' Kv) cs x := by
    intro cs x hr
    refine hr.mono fun b hb1 hlt => ⟨⟨hb1.1, fun e => ?_, hb1.2.2⟩, (ho.block b (by have := hb1.1; omega)).trans (hg2 b hlt (fun e => hb1.2.1 e.symm))⟩
    rcases hnew b e with h3 | h3
    · exact hb1.2.1 h3
    · omega
  refine ⟨?_, ?_, ?_, hJ.set4 Lv', ?_, ?_, ?_, ?_, ?_, h.kle, ?_⟩
  · exact RS.only ((hg2 g h.rs.lt (hgL g (by omega))).trans h.rs) ho (by omega)
  · refine But.only ?_ ho (by omega)
    exact (h.but.trans (.below hga)).grown hgb (fun j hj => by have := (hL j hj).1; omega)
  · exact (ho.block R hRB).trans ((hg2 R h.res.lt (hgL R (by omega))).trans h.res)
  · refine own_only ?_ ho (by omega)
    rw [List.length_append, List.flatten_append]
    simpa using hown
  · rw [List.length_append, List.length_append, h.cssl]; rfl
  · intro c hc
    rcases List.mem_append.1 hc with hc | hc
    · exact h.six c hc
    · rw [List.mem_singleton.1 hc]; exact hlen
  · intro i cs' x' hi hx
    by_cases hil : i < css.length
    · rw [List.getElem?_append_left hil] at hi
      rw [List.getElem?_append_left (by rw [← h.cssl]; exact hil)] at hx
      exact hrep2 _ _ (h.rep i cs' x' hi hx)
    · have hi2 : i = css.length := by
        have := (List.getElem?_eq_some_iff.1 hi).1
        rw [List.length_append] at this; simp at this; omega
      subst hi2
      rw [List.getElem?_append_right (Nat.le_refl _)] at hi
      rw [List.getElem?_append_right (by rw [h.cssl]; exact Nat.le_refl _), h.cssl] at hx
      simp at hi hx
      subst hi hx
      exact hrep2 _ _ hrep
  · refine own_only ?_ ho (by omega)
    have g1 : wr.grownBy wa none := ⟨hga.os, hga.tape, hga.output, hga.size, fun k hk _ => hga.block k hk⟩
    refine World.ownsRow.kept (World.ownsRow.kept h.ownK g1 (by cases Kv.ownBlock <;> simp)) hgb ?_
    cases hKo : Kv.ownBlock with
    | none => exact .inl rfl
    | some z => exact .inr (fun e => hLK z e.symm hKo)
  · rw [ho.size]; have := hgb.size; have := h.ble; omega

end Go.Proofs.YtbhnfehpbbibbaaDoor

namespace Go.Proofs.YtbhnfehpbbibbaaDoor
open Go.RowKit

theorem whF_end (s : ByteArray) : ∀ n i, s.size ≤ n + i → whF s n i < s.size → isWh (bt s (whF s n i)) = false
  | 0, i, h, hl => by simp [whF] at hl; omega
  | n + 1, i, h, hl => by
    unfold whF at hl ⊢
    by_cases hw : isWh (bt s i) = true
    · rw [if_pos hw] at hl ⊢; exact whF_end s n (i + 1) (by omega) hl
    · rw [if_neg hw] at hl ⊢; exact eq_false_of_ne_true hw
theorem whS_end {s : ByteArray} {i : Nat} (h : whS s i < s.size) : isWh (bt s (whS s i)) = false := by
  unfold whS at *
  exact whF_end s _ i (by omega) h
theorem whS_idem (s : ByteArray) (i : Nat) : whS s (whS s i) = whS s i := whS_stop fun h => whS_end h
theorem RListI.start2 {s : ByteArray} {g k : Nat} {obj : Bool} {w wz : World} (h : RS wz g s k 0) (hb : But g w wz) (hsz : wz.heap.size = w.heap.size) (hi : k ≤ s.size) :
    RListI s g w.heap.size (w.heap.size + 1) (w.heap.size + 2) obj w ((wz.alloc (.cells #[.int .i64 0, .bool false, .int .i64 0, .string ⟨#[]⟩, .slice none 0 0, .slice none 0 0] 25)).alloc (.cells #[.int .i64 (if obj then 5 else 4), .bool false, .int .i64 0, .string ⟨#[]⟩, .slice none 0 0, .slice none 0 0] 25)) k 0 [] [] (.slice none 0 0) (.slice none 0 0) [] := by
  have j1 := JB.new wz (.int .i64 0) (.bool false) (.int .i64 0) (.string ⟨#[]⟩) (.slice none 0 0) (.slice none 0 0)
  rw [hsz] at j1
  have r1 := h.alloc (.cells #[.int .i64 0, .bool false, .int .i64 0, .string ⟨#[]⟩, .slice none 0 0, .slice none 0 0] 25)
  have b1 := hb.alloc (.cells #[.int .i64 0, .bool false, .int .i64 0, .string ⟨#[]⟩, .slice none 0 0, .slice none 0 0] 25)
  generalize hwa : wz.alloc (.cells #[.int .i64 0, .bool false, .int .i64 0, .string ⟨#[]⟩, .slice none 0 0, .slice none 0 0] 25) = wa at *
  have sa : wa.heap.size = w.heap.size + 1 := by rw [← hwa]; simp [hsz]
  have j2 := JB.new wa (.int .i64 (if obj then 5 else 4)) (.bool false) (.int .i64 0) (.string ⟨#[]⟩) (.slice none 0 0) (.slice none 0 0)
  rw [sa] at j2
  exact ⟨r1.alloc _, b1.alloc _, j1.alloc _, j2, World.ownsRow_nil _ _ _ _, rfl, by simp, by intro i cs x hi; simp at hi, World.ownsRow_nil _ _ _ _, hi, by simp [sa]⟩
theorem RListI.start {s : ByteArray} {g i : Nat} {obj : Bool} {w : World} (h : RS w g s i 0) (hi : i ≤ s.size) :
    RListI s g w.heap.size (w.heap.size + 1) (w.heap.size + 2) obj w ((w.alloc (.cells #[.int .i64 0, .bool false, .int .i64 0, .string ⟨#[]⟩, .slice none 0 0, .slice none 0 0] 25)).alloc (.cells #[.int .i64 (if obj then 5 else 4), .bool false, .int .i64 0, .string ⟨#[]⟩, .slice none 0 0, .slice none 0 0] 25)) i 0 [] [] (.slice none 0 0) (.slice none 0 0) [] :=
  .start2 h (But.refl g w) rfl hi
theorem RListI.neL {s : ByteArray} {g R B base : Nat} {obj : Bool} {w wr : World} {k : Nat} {c : Int} {keys : List ByteArray} {l : List J} {Lv Kv : Value} {css : List (List Value)} (h : RListI s g R B base obj w wr k c keys l Lv Kv css) {z : Nat} (hz : z < base) : some z ≠ Lv.ownBlock := fun e => by have := (World.ownsRow.lt h.ownL z e.symm).1; omega

set_option maxRecDepth 100000 in
set_option maxHeartbeats 4000000 in
theorem rlist_zero : RListC 0 := by
  intro g s i D w hs hi h hD
  have hD1 : 16 < D := by omega
  have HI := Lib.hid (RListI.start (obj := false) h (by omega))
  have hgl := h.lt
  obtain ⟨b0, b1, b2, b3, b4, b5⟩ := HI.out.out.cell
  clear h hD
  go_enter Tryd.func33, Tryd.ntmps33
  go_wp2_with fail
  refine (rfail_first g s i 301 _ HI.out.rs).mono ?_
  rintro e w1 ⟨rfl, hp, hb⟩
  have HI1 := Lib.hid (HI.out.next (by omega) hp hb (by omega))
  clear hp hb b0 b1 b2 b3 b4 b5
  obtain ⟨b0, b1, b2, b3, b4, b5⟩ := HI1.out.out.cell
  obtain ⟨r0, r1, r2, r3, r4, r5⟩ := HI1.out.res.cell
  have f0 := HI1.out.res.frozen 0
  have f1 := HI1.out.res.frozen 1
  have f2 := HI1.out.res.frozen 2
  have f3 := HI1.out.res.frozen 3
  have f4 := HI1.out.res.frozen 4
  have f5 := HI1.out.res.frozen 5
  simp only [Bool.false_eq_true, if_false] at b0
  go_wp2_with fail
  refine ret_json Tryd.results33 rfl HI1.out.res fun W ho hJ => ?_
  exact RJPost.no (n := 301) rfl (by decide) HI1.out.kle ⟨rfl, HI1.out.rs.only ho (by omega), HI1.out.but.only ho (Nat.le_refl _)⟩ (HI1.out.rep_end.only ho (by omega) (by omega))

/-! ### one level more -/
theorem seq_more {s : ByteArray} {f k : Nat} (hf : s.size < f + k) (hk : k ≤ s.size) : ∃ f', f = f' + 1 ∧ s.size ≤ f' + k := ⟨f - 1, by omega, by omega⟩
set_option maxRecDepth 100000 in
set_option maxHeartbeats 16000000 in
theorem rlist_succ (lv : Nat) (hlv : lv < 16) (hv : RValueC lv) : RListC (lv + 1) := by
  intro g s i D w hs0 hi h hD
  have hs : s.size ≤ 140737488351232 := by omega
  have HV := Lib.hid hv
  have HD := Lib.hid hD
  have hgl := h.lt
  have hD0 : 0 ≤ D := by omega
  have hD1 : D ≤ 16 := by omega
  obtain ⟨i0, hinfo, hz0, hz1, hz2⟩ := info_parts jinfo
  have HI0 := Lib.hid (RListI.start (obj := false) h (by omega))
  have q1 := HI0.out.rs.c1
  have q2 := HI0.out.rs.f1
  simp only [Bool.false_eq_true, if_false] at q1 q2
  have hord : Hid (g < w.heap.size ∧ w.heap.size < w.heap.size + 2 ∧ g < w.heap.size + 1 ∧ w.heap.size + 1 < w.heap.size + 2) := ⟨by omega, by omega, by omega, by omega⟩
  have HIZ := Lib.hid (RListI.start2 (obj := false) (w := w) (wz := w.setCell ⟨g, 1, none⟩ (.int .i64 ((i : Int) + 1))) (k := i + 1) (h.set _ _ (by go_num)) ((But.refl g w).setOwn _ _) (by simp [World.setCell]) (by omega))
  clear h hv hD
  go_enter Tryd.func33, Tryd.ntmps33
  go_wp2_with fail
  have hwk := whS_le s (i + 1) (by omega)
  refine (rwhite_any g s (i + 1) 0 _ hs (by omega) (by exact HIZ.out.rs)).mono ?_
  rintro e w1 ⟨rfl, hp, hb⟩
  have HI1 := Lib.hid (HIZ.out.next hord.out hp hb hwk.2)
  clear hp hb q1 q2 HIZ HI0
  obtain ⟨k0, hk0⟩ : ∃ z, z = whS s (i + 1) := ⟨_, rfl⟩
  rw [← hk0] at HI1 hwk
  have HK0 := Lib.hid hk0
  clear hk0
  have HS0 : Hid (rinnerS s (lv + 1) i false = if bt s k0 = 93 then .ok (.mk 4 false 0 ⟨#[]⟩ [] [], k0 + 1) else memS s (rvalS s lv) false s.size k0 [] []) := by
    show seqS s (rvalS s lv) false (s.size + 1) true (whS s (i + 1)) [] [] = _
    rw [seq_eq, ← HK0.out]; rfl
  go_wp2_with fail
  cases hw : wordB s k0 ⟨#[93]⟩ with
  | true =>
    have hq := hw
    rw [word_one] at hq
    have hq2 : k0 < s.size ∧ bt s k0 = 93 := of_decide_eq_true hq
    have HE : Hid (rinnerS s (lv + 1) i false = .ok (.mk 4 false 0 ⟨#[]⟩ [] [], k0 + 1)) := by show _ = _; rw [HS0.out, if_pos hq2.2]
    have HW := Lib.hid hw
    clear hw hq
    refine (rword_yes g s _ k0 0 _ hs (by decide) HI1.out.rs hwk.2 HW.out).mono ?_
    rintro e w2 ⟨rfl, hp, hb⟩
    have HI2 := Lib.hid (HI1.out.next hord.out hp hb (show k0 + 1 ≤ s.size from hq2.1))
    clear hp hb
    obtain ⟨b0, b1, b2, b3, b4, b5⟩ := HI2.out.out.cell
    obtain ⟨r0, r1, r2, r3, r4, r5⟩ := HI2.out.res.cell
    have f0 := HI2.out.res.frozen 0
    have f1 := HI2.out.res.frozen 1
    have f2 := HI2.out.res.frozen 2
    have f3 := HI2.out.res.frozen 3
    have f4 := HI2.out.res.frozen 4
    have f5 := HI2.out.res.frozen 5
    simp only [if_true, Bool.false_eq_true, if_false] at b0
    go_wp2_with fail
    refine ret_json Tryd.results33 rfl HI2.out.res fun W ho hJ => ?_
    exact RJPost.yes HE.out HI2.out.kle ⟨rfl, HI2.out.rs.only ho (by omega), HI2.out.but.only ho (Nat.le_refl _)⟩ (HI2.out.rep_end.only ho (by omega) (by omega))
  | false =>
    have HS1 : Hid (rinnerS s (lv + 1) i false = memS s (rvalS s lv) false s.size k0 [] []) := by
      show _ = _
      rw [HS0.out, if_neg]
      intro h93
      rw [word_one] at hw
      exact absurd ⟨bt_in (by omega), h93⟩ (of_decide_eq_false hw)
    have HW := Lib.hid hw
    clear hw
    refine (rword_no g s _ k0 0 _ hs (by decide) HI1.out.rs hwk.2 HW.out).mono ?_
    rintro e w2 ⟨rfl, hp, hb⟩
    have HI2 := Lib.hid (HI1.out.next hord.out hp hb hwk.2)
    clear hp hb
    go_wp2_with fail
    go_loopg [] (s.size + 1 - k0) (fun n wr => ∃ (k : Nat) (c : Int) (l : List J) (Lv Kv : Value) (css : List (List Value)), ((n = s.size + 1 - k ∧ c = 0 ∧ l.length ≤ k ∧ ∃ f, s.size ≤ f + k ∧ Hid (rinnerS s (lv + 1) i false = memS s (rvalS s lv) false f (whS s k) [] l)) ∨ (n = 0 ∧ c ≠ 0 ∧ Hid (rinnerS s (lv + 1) i false = .error c))) ∧ Hid (RListI s g w.heap.size (w.heap.size + 1) (w.heap.size + 2) false w wr k c [] l Lv Kv css))
    case atStart => exact ⟨k0, 0, [], _, _, [], .inl ⟨rfl, rfl, by simp, s.size, by omega, by show _ = _; rw [HS1.out, HK0.out, whS_idem]⟩, HI2.out⟩
    case round =>
      obtain ⟨k, c, l, Lv, Kv, css, hn, HI⟩ := hrel
      have q2 := HI.out.rs.c2
      rcases hn with ⟨hn, rfl, hlen, f, hf, HS⟩ | ⟨hn, hc, HE⟩
      case inr =>
        have hcb : (c == 0) = false := beq_eq_false_iff_ne.2 hc
        have HC := Lib.hid hc
        clear hc hn
        obtain ⟨A1, c1, hLf⟩ := own_form HI.out.ownL
        subst hLf
        obtain ⟨A2, c2, hKf⟩ := own_form HI.out.ownK
        subst hKf
        obtain ⟨b0, b1, b2, b3, b4, b5⟩ := HI.out.out.cell
        obtain ⟨r0, r1, r2, r3, r4, r5⟩ := HI.out.res.cell
        have f0 := HI.out.res.frozen 0
        have f1 := HI.out.res.frozen 1
        have f2 := HI.out.res.frozen 2
        have f3 := HI.out.res.frozen 3
        have f4 := HI.out.res.frozen 4
        have f5 := HI.out.res.frozen 5
        simp only [if_true, Bool.false_eq_true, if_false] at b0
        go_wp2_with fail
        refine ret_json Tryd.results33 rfl HI.out.res fun W ho hJ => ?_
        exact RJPost.no HE.out HC.out HI.out.kle ⟨rfl, HI.out.rs.only ho (by omega), HI.out.but.only ho (Nat.le_refl _)⟩ (HI.out.rep_end.only ho (by omega) (by omega))
      case inl =>
        have HN := Lib.hid hn
        clear hn HI1 HI2
        have hk := HI.out.kle
        have hwk2 := whS_le s k hk
        go_wp2_with fail
        refine (rwhite_any g s k 0 _ hs hk HI.out.rs).mono ?_
        rintro e w3 ⟨rfl, hp, hb⟩
        have HI3 := Lib.hid (HI.out.next hord.out hp hb hwk2.2)
        clear hp hb q2
        go_wp2_with fail
        refine (HV.out g s (whS s k) D _ hs0 hwk2.2 HI3.out.rs (by have := HD.out; omega)).mono ?_
        intro e w4 hx
        obtain ⟨a, b, c, d, Lx, Kx, x, j, code, hj, ⟨rfl, hp, hb⟩, hr, hm⟩ := hx
        obtain ⟨z1, z2, z3, z4, A1, l1, m1, A2, l2, m2, rfl, rfl, rfl, rfl, rfl, rfl⟩ := rep_form hr
        have HM := Lib.hid hm
        have HI4 := Lib.hid (HI3.out.next hord.out hp hb hj)
        have HX : Hid (JRep w4 (fun b => w.heap.size + 2 ≤ b ∧ Lv.ownBlock ≠ some b ∧ Kv.ownBlock ≠ some b) [.int .i64 z1, .bool z2, .int .i64 z3, .string z4, .slice A1 l1 m1, .slice A2 l2 m2] x) := hr.mono fun b hb1 _ => by
          have e1 := HI3.out.ble
          refine ⟨⟨by omega, fun e => ?_, fun e => ?_⟩, rfl⟩
          · have := (World.ownsRow.lt HI3.out.ownL b e).2; omega
          · have := (World.ownsRow.lt HI3.out.ownK b e).2; omega
        have q4 : ∀ o, (w4.alloc o).cell? ⟨w.heap.size + 1, 4, none⟩ = some Lv := fun o => (HI4.out.out.alloc o).cell.2.2.2.2.1
        clear hp hb hr hm
        go_wp2_with (at_builtin; refine wpList_append_lies _ rfl _ _ 22 rfl (w.heap.size + 2) 25 i0 _ 6 88 Tryd.underlying22 hinfo hz0 hz1 hz2 rfl (by omega) Lv l.length css.flatten rfl (by exact World.ownsRow.alloc (World.ownsRow.alloc HI4.out.ownL _) _) ⟨w4.heap.size + 1, 0, none⟩ 1 1 [.int .i64 z1, .bool z2, .int .i64 z3, .string z4, .slice A1 l1 m1, .slice A2 l2 m2] rfl rfl (World.news_of_block (cs := #[.int .i64 z1, .bool z2, .int .i64 z3, .string z4, .slice A1 l1 m1, .slice A2 l2 m2]) (t := 25) (fr := (0, 0)) ?cn) (by simp [Value.oneCell']) (by omega) (by unfold maxLen; omega) (by omega) (by have := HI4.out.ble; simp; omega) (w4.heap.size + 1 + 1) (by simp) ?_)
        case cn =>
          have h := heap_alloc_new (w4.alloc (.cells #[.int .i64 z1, .bool z2, .int .i64 z3, .string z4, .slice A1 l1 m1, .slice A2 l2 m2] 25)) (.cells #[.int .i64 z1, .bool z2, .int .i64 z3, .string z4, .slice A1 l1 m1, .slice A2 l2 m2] 25)
          rw [World.size_alloc] at h
          exact h
        intro gg cap w6 hown6 hgr6 hat hlt
        have J6 := (HI4.out.out.alloc (.cells #[.int .i64 z1, .bool z2, .int .i64 z3, .string z4, .slice A1 l1 m1, .slice A2 l2 m2] 25)).grown2 hgr6 (HI4.out.neL hord.out.2.2.2)
        have q6 := J6.cell.2.2.2.2.1
        have f6 := J6.frozen 4
        have HI6 := Lib.hid (HI4.out.addMember hord.out (by omega) (by omega) (((Below.refl _ _).alloc (Nat.le_refl _) (.cells #[.int .i64 z1, .bool z2, .int .i64 z3, .string z4, .slice A1 l1 m1, .slice A2 l2 m2] 25)).alloc (by simp) (.cells #[.int .i64 z1, .bool z2, .int .i64 z3, .string z4, .slice A1 l1 m1, .slice A2 l2 m2] 25)) HX.out rfl hown6 hgr6 (fun j hj => by rcases hat with h | h <;> injection hj with hj <;> simp only at hj; exact .inl (by rw [← hj]; exact h); exact .inr (by omega)))
        have hwk3 := whS_le s j hj
        clear hat hown6 hgr6 hlt J6 q4 HX HI4 HI3
        go_wp2_with fail
        refine (rwhite_any g s j code _ hs hj HI6.out.rs).mono ?_
        rintro e w7 ⟨rfl, hp, hb⟩
        have HI7 := Lib.hid (HI6.out.next hord.out hp hb hwk3.2)
        clear hp hb HI6 q6 f6
        have q7 := HI7.out.rs.c2
        cases hval : rvalS s lv (whS s k) with
        | error n =>
          have hm2 : code = n ∧ n ≠ 0 := by have h := HM.out; rw [hval] at h; exact h
          have HE : Hid (rinnerS s (lv + 1) i false = .error code) := by show _ = _; rw [HS.out, hm2.1]; show (match rvalS s lv (whS s k) with | .error e => (.error e : Except Int (J × Nat)) | .ok (j, i3) => _) = _; rw [hval]
          have hcb : (code == 0) = false := beq_eq_false_iff_ne.2 (by rw [hm2.1]; exact hm2.2)
          have HC : Hid (code ≠ 0) := by rw [hm2.1]; exact hm2.2
          clear hval hm2 HM
          go_wp2_with fail
          go_roundg 0
          case measure => have := HN.out; omega
          case rel => exact ⟨_, code, _, _, _, _, .inr ⟨rfl, HC.out, HE.out⟩, HI7.out⟩
        | ok y =>
          obtain ⟨y, i3⟩ := y
          have hm2 : code = 0 ∧ x = y ∧ j = i3 := by have h := HM.out; rw [hval] at h; exact h
          obtain ⟨rfl, rfl, rfl⟩ := hm2
          have HS3 : Hid (rinnerS s (lv + 1) i false = seqS s (rvalS s lv) false f false (whS s j) [] (l ++ [x])) := by show _ = _; rw [HS.out]; show (match rvalS s lv (whS s k) with | .error e => (.error e : Except Int (J × Nat)) | .ok (j, i3) => seqS s (rvalS s lv) false f false (whS s i3) [] (l ++ [j])) = _; rw [hval]
          have hin := rvalS_in s lv (whS s k) x j hwk2.2 hval
          clear hval HM HS
          obtain ⟨f, rfl, hf2⟩ := seq_more (s := s) (f := f) (k := j) (by omega) hj
          have HS4 : Hid (rinnerS s (lv + 1) i false = if bt s (whS s j) = 93 then .ok (.mk 4 false 0 ⟨#[]⟩ (l ++ [x]) [], whS s j + 1) else if bt s (whS s j) != 44 then .error 300 else memS s (rvalS s lv) false f (whS s (whS s j + 1)) [] (l ++ [x])) := by show _ = _; rw [HS3.out, seq_eq]; rfl
          go_wp2_with fail
          cases hw : wordB s (whS s j) ⟨#[93]⟩ with
          | true =>
            have hq2 : whS s j < s.size ∧ bt s (whS s j) = 93 := by rw [word_one] at hw; exact of_decide_eq_true hw
            have HE : Hid (rinnerS s (lv + 1) i false = .ok (.mk 4 false 0 ⟨#[]⟩ (l ++ [x]) [], whS s j + 1)) := by show _ = _; rw [HS4.out, if_pos hq2.2]
            have HW := Lib.hid hw
            clear hw
            refine (rword_yes g s _ _ 0 _ hs (by decide) HI7.out.rs hwk3.2 HW.out).mono ?_
            rintro e w8 ⟨rfl, hp, hb⟩
            have HI8 := Lib.hid (HI7.out.next hord.out hp hb (show whS s j + 1 ≤ s.size from hq2.1))
            clear hp hb HI7 q7
            obtain ⟨A2, c2, hKf⟩ := own_form HI8.out.ownK
            subst hKf
            obtain ⟨b0, b1, b2, b3, b4, b5⟩ := HI8.out.out.cell
            obtain ⟨r0, r1, r2, r3, r4, r5⟩ := HI8.out.res.cell
            have f0 := HI8.out.res.frozen 0
            have f1 := HI8.out.res.frozen 1
            have f2 := HI8.out.res.frozen 2
            have f3 := HI8.out.res.frozen 3
            have f4 := HI8.out.res.frozen 4
            have f5 := HI8.out.res.frozen 5
            simp only [if_true, Bool.false_eq_true, if_false] at b0
            go_wp2_with fail
            refine ret_json Tryd.results33 rfl HI8.out.res fun W ho hJ => ?_
            exact RJPost.yes HE.out HI8.out.kle ⟨rfl, HI8.out.rs.only ho (by omega), HI8.out.but.only ho (Nat.le_refl _)⟩ (HI8.out.rep_end.only ho (by omega) (by omega))
          | false =>
            have h93 : bt s (whS s j) ≠ 93 := by
              intro h93
              rw [word_one] at hw
              exact absurd ⟨bt_in (by omega), h93⟩ (of_decide_eq_false hw)
            have HW := Lib.hid hw
            clear hw
            refine (rword_no g s _ _ 0 _ hs (by decide) HI7.out.rs hwk3.2 HW.out).mono ?_
            rintro e w8 ⟨rfl, hp, hb⟩
            have HI8 := Lib.hid (HI7.out.next hord.out hp hb hwk3.2)
            have HS5 : Hid (rinnerS s (lv + 1) i false = if bt s (whS s j) != 44 then .error 300 else memS s (rvalS s lv) false f (whS s (whS s j + 1)) [] (l ++ [x])) := by show _ = _; rw [HS4.out, if_neg h93]
            clear hp hb HI7 q7 h93
            have q8 := HI8.out.rs.c2
            go_wp2_with fail
            cases hw : wordB s (whS s j) ⟨#[44]⟩ with
            | true =>
              have hq2 : whS s j < s.size ∧ bt s (whS s j) = 44 := by rw [word_one] at hw; exact of_decide_eq_true hw
              have HS6 : Hid (rinnerS s (lv + 1) i false = memS s (rvalS s lv) false f (whS s (whS s j + 1)) [] (l ++ [x])) := by show _ = _; rw [HS5.out, if_neg (by rw [hq2.2]; decide)]
              have HW2 := Lib.hid hw
              clear hw
              refine (rword_yes g s _ _ 0 _ hs (by decide) HI8.out.rs hwk3.2 HW2.out).mono ?_
              rintro e w9 ⟨rfl, hp, hb⟩
              have HI9 := Lib.hid (HI8.out.next hord.out hp hb (show whS s j + 1 ≤ s.size from hq2.1))
              clear hp hb q8 HI8
              go_wp2_with fail
              go_roundg (s.size + 1 - (whS s j + 1))
              case measure => have := HN.out; omega
              case rel => exact ⟨whS s j + 1, 0, _, _, _, _, .inl ⟨rfl, rfl, by rw [List.length_append]; simp; omega, f, by omega, HS6.out⟩, HI9.out⟩
            | false =>
              have HE : Hid (rinnerS s (lv + 1) i false = .error 300) := by
                show _ = _
                rw [HS5.out, if_pos]
                rw [bne_iff_ne]
                intro h44
                rw [word_one] at hw
                exact absurd ⟨bt_in (by omega), h44⟩ (of_decide_eq_false hw)
              have HW2 := Lib.hid hw
              clear hw
              refine (rword_no g s _ _ 0 _ hs (by decide) HI8.out.rs hwk3.2 HW2.out).mono ?_
              rintro e w9 ⟨rfl, hp, hb⟩
              have HI9 := Lib.hid (HI8.out.next hord.out hp hb hwk3.2)
              clear hp hb q8 HI8
              go_wp2_with fail
              refine (rfail_first g s _ 300 _ HI9.out.rs).mono ?_
              rintro e w10 ⟨rfl, hp, hb⟩
              have HI10 := Lib.hid (HI9.out.next hord.out hp hb hwk3.2)
              clear hp hb HI9
              go_wp2_with fail
              go_roundg 0
              case measure => have := HN.out; omega
              case rel => exact ⟨_, 300, _, _, _, _, .inr ⟨rfl, by decide, HE.out⟩, HI10.out⟩


end Go.Proofs.YtbhnfehpbbibbaaDoor
