/- The reference's Parse: for every text the value or the error that its plain function gives. Package json's Get: the first member whose key it is, in new memory. For every world. The statements' awake: it answers true in every world that holds the library's table. -/
import Derived.Test.YtbhnfehpbbibbaaDoorM23
import Derived.Test.YtbhnfehpbbibbaaDoorM18
import Derived.Test.YtbhnfehpbbibbaaDoorM09
import Derived.Deep.RegionHeld3
import Derived.Test.YtbhnfehpbbibbaaDoorM21
import Derived.Test.YtbhnfehpbbibbaaDoorM10

namespace Go.Proofs.YtbhnfehpbbibbaaDoor
open Go.RowKit

theorem rvalue_all : ∀ lv, lv ≤ 16 → RValueC lv
  | 0, h => rvalue_of 0 h rlist_zero robj_zero
  | lv + 1, h => rvalue_of (lv + 1) h (rlist_succ lv (by omega) (rvalue_all lv (by omega))) (robj_succ lv (by omega) (rvalue_all lv (by omega)))

def RParsePost (s : ByteArray) (w : World) (e : Ending) (w' : World) : Prop :=
  Below w.heap.size w w' ∧
  match rparseS s with
  | .error c => e = .returned (.tuple #[Zero6, .int .i64 c])
  | .ok x => ∃ a b c d f g, e = .returned (.tuple #[.agg #[a, b, c, d, f, g], .int .i64 0]) ∧ JRep w' (fun k => w.heap.size ≤ k) [a, b, c, d, f, g] x
theorem RParsePost.no {s w e w' c} (hb : Below w.heap.size w w') (h : rparseS s = .error c) (he : e = .returned (.tuple #[Zero6, .int .i64 c])) : RParsePost s w e w' := by unfold RParsePost; rw [h]; exact ⟨hb, he⟩
theorem RParsePost.yes {s w e w' x a b c d f g} (hb : Below w.heap.size w w') (h : rparseS s = .ok x) (he : e = .returned (.tuple #[.agg #[a, b, c, d, f, g], .int .i64 0])) (h1 : JRep w' (fun k => w.heap.size ≤ k) [a, b, c, d, f, g] x) : RParsePost s w e w' := by unfold RParsePost; rw [h]; exact ⟨hb, a, b, c, d, f, g, he, h1⟩

theorem ret_json2 {fn : Func} {p q : Tmp} (hr : fn.results = #[.cell p 25, .tmp q]) {R : Nat} {a b c d e f a' b' c' d' e' f' : Value} {n : Int} {w : World} {tmps : Array Value} {post : Ending → World → Prop}
    (ht : tmps.getD p undef = .pointer (some ⟨R, 0, none⟩)) (hq : tmps.getD q undef = .int .i64 n) (hj : JB w R a b c d e f)
    (h : ∀ W, Only R w W → JB W R a' b' c' d' e' f' → post (.returned (.tuple #[.agg #[a', b', c', d', e', f'], .int .i64 n])) W) :
    bodyPost Tryd.prog fn post Exit.ret { tmps := tmps, defers := [] } ((((((w.setCell ⟨R, 0, none⟩ a').setCell ⟨R, 1, none⟩ b').setCell ⟨R, 2, none⟩ c').setCell ⟨R, 3, none⟩ d').setCell ⟨R, 4, none⟩ e').setCell ⟨R, 5, none⟩ f') := by
  have h1 := hj.set6 a' b' c' d' e' f'
  have h2 := only6 w R a' b' c' d' e' f'
  generalize ((((((w.setCell ⟨R, 0, none⟩ a').setCell ⟨R, 1, none⟩ b').setCell ⟨R, 2, none⟩ c').setCell ⟨R, 3, none⟩ d').setCell ⟨R, 4, none⟩ e').setCell ⟨R, 5, none⟩ f') = W at h1 h2
  obtain ⟨k0, k1, k2, k3, k4, k5⟩ := h1.cell
  refine bodyPost_ret (v := .tuple #[.agg #[a', b', c', d', e', f'], .int .i64 n]) ?_ rfl (h W h2 h1)
  have ht2 : tmps[p]?.getD undef = .pointer (some ⟨R, 0, none⟩) := by simpa using ht
  have hq2 : tmps[q]?.getD undef = .int .i64 n := by simpa using hq
  simp only [results, hr]
  simp [ht2, hq2, go_sem, k0, k1, k2, k3, k4, k5]

theorem jb_drew {w : World} {R : Nat} {a b c d e f : Value} (h : JB w R a b c d e f) : JB w.drew R a b c d e f := h
theorem only_drew {R : Nat} {w w' : World} (h : Only R w w') : Only R w w'.drew := ⟨h.os, h.tape, h.output, h.size, h.block⟩
theorem ret_json2d {fn : Func} {p q : Tmp} (hr : fn.results = #[.cell p 25, .tmp q]) {R : Nat} {a b c d e f a' b' c' d' e' f' : Value} {n : Int} {w : World} {tmps : Array Value} {post : Ending → World → Prop}
    (ht : tmps.getD p undef = .pointer (some ⟨R, 0, none⟩)) (hq : tmps.getD q undef = .int .i64 n) (hj : JB w R a b c d e f)
    (h : ∀ W, Only R w W → JB W R a' b' c' d' e' f' → post (.returned (.tuple #[.agg #[a', b', c', d', e', f'], .int .i64 n])) W) :
    bodyPost Tryd.prog fn post Exit.ret { tmps := tmps, defers := [] } (((((((w.setCell ⟨R, 0, none⟩ a').setCell ⟨R, 1, none⟩ b').setCell ⟨R, 2, none⟩ c').setCell ⟨R, 3, none⟩ d').setCell ⟨R, 4, none⟩ e').setCell ⟨R, 5, none⟩ f').drew) := by
  have h1 : JB (((((((w.setCell ⟨R, 0, none⟩ a').setCell ⟨R, 1, none⟩ b').setCell ⟨R, 2, none⟩ c').setCell ⟨R, 3, none⟩ d').setCell ⟨R, 4, none⟩ e').setCell ⟨R, 5, none⟩ f').drew) R a' b' c' d' e' f' := jb_drew (hj.set6 a' b' c' d' e' f')
  have h0 := only6 w R a' b' c' d' e' f'
  have h2 : Only R w (((((((w.setCell ⟨R, 0, none⟩ a').setCell ⟨R, 1, none⟩ b').setCell ⟨R, 2, none⟩ c').setCell ⟨R, 3, none⟩ d').setCell ⟨R, 4, none⟩ e').setCell ⟨R, 5, none⟩ f').drew) := only_drew h0
  generalize (((((((w.setCell ⟨R, 0, none⟩ a').setCell ⟨R, 1, none⟩ b').setCell ⟨R, 2, none⟩ c').setCell ⟨R, 3, none⟩ d').setCell ⟨R, 4, none⟩ e').setCell ⟨R, 5, none⟩ f').drew) = W at h1 h2
  obtain ⟨k0, k1, k2, k3, k4, k5⟩ := h1.cell
  refine bodyPost_ret (v := .tuple #[.agg #[a', b', c', d', e', f'], .int .i64 n]) ?_ rfl (h W h2 h1)
  have ht2 : tmps[p]?.getD undef = .pointer (some ⟨R, 0, none⟩) := by simpa using ht
  have hq2 : tmps[q]?.getD undef = .int .i64 n := by simpa using hq
  simp only [results, hr]
  simp [ht2, hq2, go_sem, k0, k1, k2, k3, k4, k5]

set_option maxRecDepth 100000 in
set_option maxHeartbeats 4000000 in
theorem rparse_long (s : ByteArray) (w : World) (hs : s.size ≤ 140737488351232) (hl : 65536 < s.size) : Calls Tryd.prog 6 #[.string s] w (RParsePost s w) := by
  have HE : Hid (rparseS s = .error 302) := by show _ = _; unfold rparseS; rw [if_pos hl]
  go_enter Tryd.func6, Tryd.ntmps6
  go_wp2_with fail
  refine bodyPost_ret (v := .tuple #[Zero6, .int .i64 302]) (by simp [results, Tryd.results6, go_sem, Zero6]) rfl ?_
  exact RParsePost.no (by (repeat' (first | (with_reducible exact Below.refl _ _) | (with_reducible assumption) | (with_reducible refine below_drewN ?_ _) | (with_reducible refine Below.drew ?_) | (with_reducible refine Below.alloc ?_ ?_ _) | (with_reducible refine Below.setCell ?_ ?_ _) | (with_reducible exact Nat.le_refl _) | omega | (simp only [World.size_alloc, World.size_setCell, World.size_drew]; omega) | (simp; done) | (simp; omega)))) HE.out rfl

/-- what holds of a world in the midst of the reference's Parse -/
structure RPI (s : ByteArray) (w wr : World) (k : Nat) (c : Int) : Prop where
  rs : RS wr (w.heap.size + 1) s k c
  res : JB wr w.heap.size (.int .i64 0) (.bool false) (.int .i64 0) (.string ⟨#[]⟩) (.slice none 0 0) (.slice none 0 0)
  bel : Below w.heap.size w wr
theorem RPI.next {s : ByteArray} {w wr w' : World} {k k' : Nat} {c c' : Int} (h : RPI s w wr k c) (hp : RS w' (w.heap.size + 1) s k' c') (hb : But (w.heap.size + 1) wr w') : RPI s w w' k' c' :=
  ⟨hp, h.res.but hb (by omega), h.bel.trans (hb.toBelow (by omega) h.bel.size)⟩
theorem RPI.start (s : ByteArray) (w : World) : RPI s w ((w.alloc (.cells #[.int .i64 0, .bool false, .int .i64 0, .string ⟨#[]⟩, .slice none 0 0, .slice none 0 0] 25)).alloc (.cells #[.string s, .int .i64 0, .int .i64 0] 50)) 0 0 := by
  have j1 := JB.new w (.int .i64 0) (.bool false) (.int .i64 0) (.string ⟨#[]⟩) (.slice none 0 0) (.slice none 0 0)
  have b1 := (Below.refl w.heap.size w).alloc (Nat.le_refl _) (.cells #[.int .i64 0, .bool false, .int .i64 0, .string ⟨#[]⟩, .slice none 0 0, .slice none 0 0] 25)
  generalize hwa : w.alloc (.cells #[.int .i64 0, .bool false, .int .i64 0, .string ⟨#[]⟩, .slice none 0 0, .slice none 0 0] 25) = wa at *
  have sa : wa.heap.size = w.heap.size + 1 := by rw [← hwa]; simp
  refine ⟨?_, j1.alloc _, b1.alloc (by omega) _⟩
  rw [← sa]; show (wa.heap.push _)[wa.heap.size]? = _; simp
theorem RPI.alloc {s : ByteArray} {w wr : World} {k : Nat} {c : Int} (h : RPI s w wr k c) (o : Obj) : RPI s w (wr.alloc o) k c := ⟨h.rs.alloc o, h.res.alloc o, h.bel.alloc h.bel.size o⟩

set_option maxRecDepth 100000 in
set_option maxHeartbeats 2000000 in
theorem rparse_short (s : ByteArray) (w : World) (hs : s.size ≤ 65536) : Calls Tryd.prog 6 #[.string s] w (RParsePost s w) := by
  have hs2 : s.size ≤ 140737488351232 := by omega
  have H0 := Lib.hid (RPI.start s w)
  have hwk := whS_le s 0 (by omega)
  go_enter Tryd.func6, Tryd.ntmps6
  go_wp2_with fail
  refine (rwhite_any _ s 0 0 _ hs2 (by omega) H0.out.rs).mono ?_
  rintro e w1 ⟨rfl, hp, hb⟩
  have H1 := Lib.hid (H0.out.next hp hb)
  clear hp hb H0
  go_wp2_with fail
  refine (rvalue_all 16 (by omega) _ s (whS s 0) 0 _ hs hwk.2 H1.out.rs (by omega)).mono ?_
  intro e w2 hx
  obtain ⟨a, b, c, d, Lx, Kx, x, j, code, hj, ⟨rfl, hp, hb⟩, hr, hm⟩ := hx
  obtain ⟨z1, z2, z3, z4, A1, l1, m1, A2, l2, m2, rfl, rfl, rfl, rfl, rfl, rfl⟩ := rep_form hr
  have HM := Lib.hid hm
  have hsz : w.heap.size + 1 < w1.heap.size := H1.out.rs.lt
  have hsz2 : w1.heap.size ≤ w2.heap.size := hb.size
  have H2 := Lib.hid ((H1.out.next hp hb).alloc (.cells #[.int .i64 z1, .bool z2, .int .i64 z3, .string z4, .slice A1 l1 m1, .slice A2 l2 m2] 25))
  have HR : Hid (JRep (w2.alloc (.cells #[.int .i64 z1, .bool z2, .int .i64 z3, .string z4, .slice A1 l1 m1, .slice A2 l2 m2] 25)) (fun k => w1.heap.size ≤ k) [.int .i64 z1, .bool z2, .int .i64 z3, .string z4, .slice A1 l1 m1, .slice A2 l2 m2] x) := hr.mono fun b hb1 hlt => ⟨hb1, Below.heap_alloc _ _ _ hlt⟩
  have HJ := Lib.hid (JB.new w2 (.int .i64 z1) (.bool z2) (.int .i64 z3) (.string z4) (.slice A1 l1 m1) (.slice A2 l2 m2))
  clear hp hb hr hm
  go_wp2_with fail
  have hwk2 := whS_le s j hj
  refine (rwhite_any _ s j code _ hs2 hj H2.out.rs).mono ?_
  rintro e w3 ⟨rfl, hp, hb⟩
  have H3 := Lib.hid (H2.out.next hp hb)
  have HR3 : Hid (JRep w3 (fun k => w1.heap.size ≤ k) [.int .i64 z1, .bool z2, .int .i64 z3, .string z4, .slice A1 l1 m1, .slice A2 l2 m2] x) := HR.out.mono fun b hb1 hlt => ⟨hb1, hb.block b hlt (by omega)⟩
  have HJ3 := Lib.hid (HJ.out.but hb (by omega))
  clear hp hb H2 HR HJ
  have q2 := H3.out.rs.c2
  cases hv : rvalS s 16 (whS s 0) with
  | error n =>
    have hm2 : code = n ∧ n ≠ 0 := by have h := HM.out; rw [hv] at h; exact h
    have HE : Hid (rparseS s = .error code) := by show _ = _; unfold rparseS; rw [if_neg (by omega), hv, hm2.1]
    have hc1 : (code == 0) = false := beq_eq_false_iff_ne.2 (by rw [hm2.1]; exact hm2.2)
    have hc2 : (code != 0) = true := bne_iff_ne.2 (by rw [hm2.1]; exact hm2.2)
    clear hv hm2 HM
    go_wp2_with fail
    obtain ⟨r0, r1, r2, r3, r4, r5⟩ := H3.out.res.cell
    have f0 := H3.out.res.frozen 0
    have f1 := H3.out.res.frozen 1
    have f2 := H3.out.res.frozen 2
    have f3 := H3.out.res.frozen 3
    have f4 := H3.out.res.frozen 4
    have f5 := H3.out.res.frozen 5
    go_region_held3 (fun w' => w'.cell? ⟨w.heap.size + 1, 2, none⟩ = some (.int .i64 code)) (go_keep) (fail)
    go_wp2_with fail
    refine ret_json2d (n := code) Tryd.results6 ?g1a ?g1b H3.out.res fun W ho hJ => ?_
    case g1a => rfl
    case g1b => rfl
    exact RParsePost.no (below_only H3.out.bel ho (Nat.le_refl _)) HE.out rfl
  | ok y =>
    obtain ⟨y, i3⟩ := y
    have hm2 : code = 0 ∧ x = y ∧ j = i3 := by have h := HM.out; rw [hv] at h; exact h
    obtain ⟨rfl, rfl, rfl⟩ := hm2
    have q1 := H3.out.rs.c1
    by_cases hend : whS s j = s.size
    · have HE : Hid (rparseS s = .ok x) := by show _ = _; unfold rparseS; rw [if_neg (by omega), hv]; simp only [hend, if_true]
      have hend2 : ((whS s j : Int) != s.size) = false := by rw [hend]; simp
      obtain ⟨k0, k1, k2, k3, k4, k5⟩ := HJ3.out.cell
      obtain ⟨r0, r1, r2, r3, r4, r5⟩ := H3.out.res.cell
      have f0 := H3.out.res.frozen 0
      have f1 := H3.out.res.frozen 1
      have f2 := H3.out.res.frozen 2
      have f3 := H3.out.res.frozen 3
      have f4 := H3.out.res.frozen 4
      have f5 := H3.out.res.frozen 5
      clear hend hv HM
      go_wp2_with fail
      refine ret_json2 (n := 0) Tryd.results6 ?g2a ?g2b H3.out.res fun W ho hJ => ?_
      case g2a => rfl
      case g2b => rfl
      exact RParsePost.yes (below_only H3.out.bel ho (Nat.le_refl _)) HE.out rfl (HR3.out.only ho (by omega) (by omega))
    · have HE : Hid (rparseS s = .error 300) := by show _ = _; unfold rparseS; rw [if_neg (by omega), hv]; simp only [hend, if_false]
      have hend2 : ((whS s j : Int) != s.size) = true := bne_iff_ne.2 (by omega)
      clear hend hv HM
      go_wp2_with fail
      refine (rfail_first _ s _ 300 _ H3.out.rs).mono ?_
      rintro e w4 ⟨rfl, hp, hb⟩
      have H4 := Lib.hid (H3.out.next hp hb)
      clear hp hb q1 q2 H3
      have q2 := H4.out.rs.c2
      go_wp2_with fail
      obtain ⟨r0, r1, r2, r3, r4, r5⟩ := H4.out.res.cell
      have f0 := H4.out.res.frozen 0
      have f1 := H4.out.res.frozen 1
      have f2 := H4.out.res.frozen 2
      have f3 := H4.out.res.frozen 3
      have f4 := H4.out.res.frozen 4
      have f5 := H4.out.res.frozen 5
      go_region_held3 (fun w' => w'.cell? ⟨w.heap.size + 1, 2, none⟩ = some (.int .i64 300)) (go_keep) (fail)
      go_wp2_with fail
      refine ret_json2d (n := 300) Tryd.results6 ?g3a ?g3b H4.out.res fun W ho hJ => ?_
      case g3a => rfl
      case g3b => rfl
      exact RParsePost.no (below_only H4.out.bel ho (Nat.le_refl _)) HE.out rfl

theorem rparse_any (s : ByteArray) (w : World) (hs : s.size ≤ 140737488351232) : Calls Tryd.prog 6 #[.string s] w (RParsePost s w) := by
  by_cases h : s.size ≤ 65536
  · exact rparse_short s w h
  · exact rparse_long s w hs (by omega)

end Go.Proofs.YtbhnfehpbbibbaaDoor

namespace Go.Proofs.YtbhnfehpbbibbaaDoor
open Go.RowKit

def getF (key : ByteArray) : List ByteArray → List J → Option J
  | k :: ks, x :: xs => if k = key then some x else getF key ks xs
  | _, _ => none
def getS (key : ByteArray) : J → Option J
  | .mk k _ _ _ l keys => if k = 5 then getF key keys l else none
theorem getF_hit {key : ByteArray} {keys : List ByteArray} {l : List J} {m : Nat} {x : J} (hk : keys[m]? = some key) (hx : l[m]? = some x) : getF key (keys.drop m) (l.drop m) = some x := by
  have h1 : m < keys.length := (List.getElem?_eq_some_iff.1 hk).1
  have h2 : m < l.length := (List.getElem?_eq_some_iff.1 hx).1
  rw [List.drop_eq_getElem_cons h1, List.drop_eq_getElem_cons h2]
  rw [List.getElem?_eq_getElem h1] at hk
  rw [List.getElem?_eq_getElem h2] at hx
  injection hk with hk; injection hx with hx
  rw [getF, if_pos hk, hx]
theorem getF_miss {key t : ByteArray} {keys : List ByteArray} {l : List J} {m : Nat} (hk : keys[m]? = some t) (hne : t ≠ key) : getF key (keys.drop m) (l.drop m) = getF key (keys.drop (m + 1)) (l.drop (m + 1)) := by
  have h1 : m < keys.length := (List.getElem?_eq_some_iff.1 hk).1
  rw [List.drop_eq_getElem_cons h1]
  rw [List.getElem?_eq_getElem h1] at hk
  injection hk with hk
  by_cases h2 : m < l.length
  · rw [List.drop_eq_getElem_cons h2, getF, if_neg (by rw [hk]; exact hne)]
  · rw [List.drop_eq_nil_of_le (by omega : l.length ≤ m), List.drop_eq_nil_of_le (by omega : l.length ≤ m + 1)]
    cases keys.drop (m + 1) <;> rfl
theorem getF_end {key : ByteArray} {keys : List ByteArray} {l : List J} {m : Nat} (h : keys.length ≤ m ∨ l.length ≤ m) : getF key (keys.drop m) (l.drop m) = none := by
  rcases h with h | h
  · rw [List.drop_eq_nil_of_le h]; rfl
  · rw [List.drop_eq_nil_of_le h]
    cases keys.drop m <;> rfl

theorem ret_jsonv {fn : Func} {p q : Tmp} (hr : fn.results = #[.cell p 25, .tmp q]) {R : Nat} {a b c d e f a' b' c' d' e' f' vq : Value} {w : World} {tmps : Array Value} {post : Ending → World → Prop}
    (ht : tmps.getD p undef = .pointer (some ⟨R, 0, none⟩)) (hq : tmps.getD q undef = vq) (hj : JB w R a b c d e f)
    (h : ∀ W, Only R w W → JB W R a' b' c' d' e' f' → post (.returned (.tuple #[.agg #[a', b', c', d', e', f'], vq])) W) :
    bodyPost Tryd.prog fn post Exit.ret { tmps := tmps, defers := [] } ((((((w.setCell ⟨R, 0, none⟩ a').setCell ⟨R, 1, none⟩ b').setCell ⟨R, 2, none⟩ c').setCell ⟨R, 3, none⟩ d').setCell ⟨R, 4, none⟩ e').setCell ⟨R, 5, none⟩ f') := by
  have h1 := hj.set6 a' b' c' d' e' f'
  have h2 := only6 w R a' b' c' d' e' f'
  generalize ((((((w.setCell ⟨R, 0, none⟩ a').setCell ⟨R, 1, none⟩ b').setCell ⟨R, 2, none⟩ c').setCell ⟨R, 3, none⟩ d').setCell ⟨R, 4, none⟩ e').setCell ⟨R, 5, none⟩ f') = W at h1 h2
  obtain ⟨k0, k1, k2, k3, k4, k5⟩ := h1.cell
  refine bodyPost_ret (v := .tuple #[.agg #[a', b', c', d', e', f'], vq]) ?_ rfl (h W h2 h1)
  have ht2 : tmps[p]?.getD undef = .pointer (some ⟨R, 0, none⟩) := by simpa using ht
  have hq2 : tmps[q]?.getD undef = vq := by simpa using hq
  simp only [results, hr]
  simp [ht2, hq2, go_sem, k0, k1, k2, k3, k4, k5]

def GetPost (r : Option J) (w : World) (e : Ending) (w' : World) : Prop := ∃ a b c d f g, e = .returned (.tuple #[.agg #[a, b, c, d, f, g], .bool r.isSome]) ∧ Below w.heap.size w w' ∧ JRep w' (fun k => w.heap.size ≤ k) [a, b, c, d, f, g] (r.getD J.null)
theorem GetPost.none {r : Option J} {w w' : World} {e : Ending} (h : r = none) (hb : Below w.heap.size w w') (he : e = .returned (.tuple #[Zero6, .bool false])) : GetPost r w e w' := by
  rw [h]; exact ⟨_, _, _, _, _, _, he, hb, JRep.nils _ _ _ _ _ _⟩
theorem GetPost.some {r : Option J} {x : J} {w w' : World} {e : Ending} {a b c d f g : Value} (h : r = some x) (he : e = .returned (.tuple #[.agg #[a, b, c, d, f, g], .bool true])) (hb : Below w.heap.size w w') (hr : JRep w' (fun k => w.heap.size ≤ k) [a, b, c, d, f, g] x) : GetPost r w e w' := by
  rw [h]; exact ⟨a, b, c, d, f, g, he, hb, hr⟩

set_option maxRecDepth 100000 in
set_option maxHeartbeats 4000000 in
theorem get_any (B : Nat) (hB : B ≤ 33554432) {x : J} (hx : Sm B x) (key : ByteArray) (ok : Nat → Prop) (w : World) (a b c d e f : Value) (h : JRep w ok [a, b, c, d, e, f] x) :
    Calls Tryd.prog 12 #[.agg #[a, b, c, d, e, f], .string key] w (GetPost (getS key x) w) := by
  cases hx with
  | @mk k q n s l keys hl hk hs hks hn hrec =>
    obtain ⟨rfl, rfl, rfl, rfl, css, A1, c1, A2, c2, rfl, rfl, hcl, hL, hre, hK⟩ := rep_parts h
    have HL := Lib.hid hL
    have HK := Lib.hid hK
    have HR := Lib.hid hre
    have HC := Lib.hid hcl
    have HREC := Lib.hid hrec
    have HJ := Lib.hid (boxes w (.int .i64 k) (.bool q) (.int .i64 n) (.string s) (.slice A1 l.length c1) (.slice A2 keys.length c2) (.int .i64 0) (.bool false) (.int .i64 0) (.string ⟨#[]⟩) (.slice none 0 0) (.slice none 0 0))
    have HB0 : Hid (Below w.heap.size w ((w.alloc (.cells #[.int .i64 k, .bool q, .int .i64 n, .string s, .slice A1 l.length c1, .slice A2 keys.length c2] 25)).alloc (.cells #[.int .i64 0, .bool false, .int .i64 0, .string ⟨#[]⟩, .slice none 0 0, .slice none 0 0] 25))) := ((Below.refl _ _).alloc (Nat.le_refl _) _).alloc (by simp) _
    clear hL hK hre hcl h hks hrec hn
    by_cases hk5 : k = 5
    case neg =>
      have HE : Hid (getS key (.mk k q n s l keys) = none) := if_neg hk5
      have hkb : (k != 5) = true := bne_iff_ne.2 hk5
      clear hk5
      go_enter Tryd.func12, Tryd.ntmps12
      go_wp2_with fail
      exact bodyPost_ret (v := .tuple #[Zero6, .bool false]) (by simp [results, Tryd.results12, go_sem, Zero6]) rfl (GetPost.none HE.out HB0.out rfl)
    case pos =>
      subst hk5
      have HE : Hid (getS key (.mk 5 q n s l keys) = getF key keys l) := rfl
      go_enter Tryd.func12, Tryd.ntmps12
      go_wp2_with fail
      generalize (w.alloc (.cells #[.int .i64 5, .bool q, .int .i64 n, .string s, .slice A1 l.length c1, .slice A2 keys.length c2] 25)).alloc (.cells #[.int .i64 0, .bool false, .int .i64 0, .string ⟨#[]⟩, .slice none 0 0, .slice none 0 0] 25) = W0 at HJ HB0 ⊢
      obtain ⟨j0, j1, j2, j3, j4, j5⟩ := HJ.out.1.cell
      obtain ⟨r0, r1, r2, r3, r4, r5⟩ := HJ.out.2.cell
      have f0 := HJ.out.2.frozen 0
      have f1 := HJ.out.2.frozen 1
      have f2 := HJ.out.2.frozen 2
      have f3 := HJ.out.2.frozen 3
      have f4 := HJ.out.2.frozen 4
      have f5 := HJ.out.2.frozen 5
      go_loopg [15] (keys.length) (fun nn v15 wr => ∃ (m : Nat), v15 = .int .i64 m ∧ m ≤ keys.length ∧ nn = keys.length - m ∧ Hid (wr = W0 ∧ getF key keys l = getF key (keys.drop m) (l.drop m)))
      case atStart => exact ⟨0, rfl, Nat.zero_le _, rfl, rfl, rfl⟩
      case round =>
        obtain ⟨m, rfl, hm, hn, H⟩ := hrel
        have HN := Lib.hid hn
        clear hn
        obtain rfl := H.out.1
        by_cases hmk : m < keys.length
        case neg =>
          have HE2 : Hid (getS key (.mk 5 q n s l keys) = none) := by show _ = _; rw [HE.out, H.out.2]; exact getF_end (.inl (by omega))
          go_wp2_with fail
          refine ret_jsonv (vq := .bool false) Tryd.results12 ?_ ?_ HJ.out.2 fun W ho hJ => ?_
          rfl
          rfl
          exact GetPost.none HE2.out (below_only HB0.out ho (by omega)) rfl
        case pos =>
          obtain ⟨t, ht⟩ : ∃ t, keys[m]? = some t := ⟨_, List.getElem?_eq_getElem hmk⟩
          have ht2 : (keys.map fun t => [Value.string t])[m]? = some [Value.string t] := by rw [List.getElem?_map, ht]; rfl
          obtain ⟨kb, ko, rfl, _, _, hck⟩ := HK.out.elem ht2
          have gk : wr.cell? ⟨kb, ko + m, none⟩ = some (.string t) := by have := hck.keep HB0.out 0 _ rfl; simpa using this
          clear hck ht2
          by_cases hte : t = key
          case neg =>
            have e0 := same_no hte
            have HS : Hid (getF key keys l = getF key (keys.drop (m + 1)) (l.drop (m + 1))) := H.out.2.trans (getF_miss ht hte)
            clear hte ht
            go_wp2_with fail
            go_roundg (keys.length - (m + 1))
            case measure => have := HN.out; omega
            case rel => exact ⟨m + 1, by go_num, by omega, rfl, rfl, HS.out⟩
          case pos =>
            have e0 := same_yes hte
            by_cases hml : m < l.length
            case neg =>
              have hd : decide ((m : Int) < l.length) = false := decide_eq_false (by omega)
              have HS : Hid (getF key keys l = getF key (keys.drop (m + 1)) (l.drop (m + 1))) := by show _ = _; rw [H.out.2, getF_end (.inr (by omega)), getF_end (.inr (by omega))]
              clear hte ht
              go_wp2_with fail
              go_roundg (keys.length - (m + 1))
              case measure => have := HN.out; omega
              case rel => exact ⟨m + 1, by go_num, by omega, rfl, rfl, HS.out⟩
            case pos =>
              have hd : decide ((m : Int) < l.length) = true := decide_eq_true (by omega)
              obtain ⟨x, hx⟩ : ∃ t, l[m]? = some t := ⟨_, List.getElem?_eq_getElem hml⟩
              obtain ⟨cs, hcs⟩ : ∃ t, css[m]? = some t := ⟨_, List.getElem?_eq_getElem (by have := HC.out; omega)⟩
              obtain ⟨eb, eo, rfl, _, _, hc1⟩ := HL.out.elem hcs
              have hr1 := HR.out m cs x hcs hx
              obtain ⟨x0, x1, x2, x3, x4, x5, rfl⟩ := hr1.six
              obtain ⟨z1, z2, z3, z4, E1, l1, m1, E2, l2, m2, rfl, rfl, rfl, rfl, rfl, rfl⟩ := rep_form hr1
              obtain ⟨y0, y1, y2, y3, y4, y5⟩ := cells6 (hc1.keep HB0.out)
              have HRx := Lib.hid (hr1.stays HB0.out)
              have HSM := Lib.hid (HREC.out m x hx)
              have HE2 : Hid (getS key (.mk 5 q n s l keys) = some x) := by show _ = _; rw [HE.out, H.out.2]; exact getF_hit (by rw [ht, hte]) hx
              clear hc1 hr1 hcs hx hte ht
              go_wp2_with fail
              refine (clone_any B hB HSM.out _ _ _ _ _ _ _ _ HRx.out).mono ?_
              rintro e w4 ⟨t0, t1, t2, t3, t4, t5, rfl, hb, hr⟩
              obtain ⟨u1, u2, u3, u4, U1, ul1, um1, U2, ul2, um2, rfl, rfl, rfl, rfl, rfl, rfl⟩ := rep_form hr
              have HR4 := Lib.hid hr
              have HJ4 := Lib.hid (HJ.out.2.below hb)
              have HB4 := Lib.hid (Below.trans2 HB0.out hb)
              have hsz : w.heap.size + 1 < wr.heap.size := HJ.out.2.lt
              clear hb hr y0 y1 y2 y3 y4 y5 j0 j1 j2 j3 j4 j5 r0 r1 r2 r3 r4 r5 f0 f1 f2 f3 f4 f5 gk
              obtain ⟨r0, r1, r2, r3, r4, r5⟩ := HJ4.out.cell
              have f0 := HJ4.out.frozen 0
              have f1 := HJ4.out.frozen 1
              have f2 := HJ4.out.frozen 2
              have f3 := HJ4.out.frozen 3
              have f4 := HJ4.out.frozen 4
              have f5 := HJ4.out.frozen 5
              go_wp2_with fail
              refine ret_jsonv (vq := .bool true) Tryd.results12 ?_ ?_ HJ4.out fun W ho hJ => ?_
              rfl
              rfl
              exact GetPost.some HE2.out rfl (below_only HB4.out ho (by omega)) (HR4.out.only ho (by omega) (by omega))

end Go.Proofs.YtbhnfehpbbibbaaDoor

namespace Go.Proofs.YtbhnfehpbbibbaaDoor
open Go.RowKit

theorem parse2 (s : ByteArray) (w : World) (hs : s.size ≤ 140737488351232) : Calls Tryd.prog 5 #[.string s] w fun e w' =>
    ∃ a b c d f g, e = .returned (.tuple #[.agg #[a, b, c, d, f, g], .int .i64 (pE s)]) ∧ Below w.heap.size w w' ∧ JRep w' (fun k => w.heap.size ≤ k) [a, b, c, d, f, g] (pX s) ∧ JOwn w' w.heap.size [a, b, c, d, f, g] := by
  refine (parse_any s w hs).mono fun e w' ⟨hb, h⟩ => ?_
  unfold pE pX
  cases hp : parseS s with
  | error c => rw [hp] at h; exact ⟨_, _, _, _, _, _, h, hb, JRep.nils _ _ _ _ _ _, JOwn.nils _ _ _ _ _ _⟩
  | ok x => rw [hp] at h; obtain ⟨a, b, c, d, f, g, h1, h2, h3⟩ := h; exact ⟨a, b, c, d, f, g, h1, hb, h2, h3⟩
theorem rparse2 (s : ByteArray) (w : World) (hs : s.size ≤ 140737488351232) : Calls Tryd.prog 6 #[.string s] w fun e w' =>
    ∃ a b c d f g, e = .returned (.tuple #[.agg #[a, b, c, d, f, g], .int .i64 (pE s)]) ∧ Below w.heap.size w w' ∧ JRep w' (fun k => w.heap.size ≤ k) [a, b, c, d, f, g] (pX s) := by
  refine (rparse_any s w hs).mono fun e w' ⟨hb, h⟩ => ?_
  unfold pE pX
  rw [← parse_same] at h
  cases hp : parseS s with
  | error c => rw [hp] at h; exact ⟨_, _, _, _, _, _, h, hb, JRep.nils _ _ _ _ _ _⟩
  | ok x => rw [hp] at h; obtain ⟨a, b, c, d, f, g, h1, h2⟩ := h; exact ⟨a, b, c, d, f, g, h1, hb, h2⟩

theorem num_any (c : Int) (w : World) : Calls Tryd.prog 8 #[.int .i64 c] w fun e w' => e = .returned (.int .i64 c) ∧ w = w' := by
  go_enter Tryd.func8, Tryd.ntmps8
  go_wp2
  go_ret
  exact ⟨rfl, rfl⟩

def awS : ByteArray := ⟨#[32, 123, 34, 97, 34, 58, 91, 49, 44, 45, 50, 44, 110, 117, 108, 108, 44, 34, 120, 92, 110, 34, 93, 125, 32]⟩
def awT : ByteArray := ⟨#[123, 34, 97, 34, 58, 91, 49, 44, 45, 50, 44, 110, 117, 108, 108, 44, 34, 120, 92, 110, 34, 93, 125]⟩
def awI : J := .mk 4 false 0 ⟨#[]⟩ [.mk 2 false 1 ⟨#[]⟩ [] [], .mk 2 false (-2) ⟨#[]⟩ [] [], .mk 0 false 0 ⟨#[]⟩ [] [], .mk 3 false 0 ⟨#[120, 10]⟩ [] []] []
def awX : J := .mk 5 false 0 ⟨#[]⟩ [awI] [⟨#[97]⟩]
theorem aw_parse : parseS awS = .ok awX := by kernel_rfl
theorem aw_no : parseS ⟨#[91, 49, 46, 48, 93]⟩ = .error 300 := by kernel_rfl
theorem aw_get : getS ⟨#[97]⟩ awX = some awI := by kernel_rfl
theorem aw_none : getS ⟨#[98]⟩ awX = none := by kernel_rfl
theorem aw_print : printS awX = .ok awT.data.toList := by kernel_rfl

theorem aw_size : awS.size ≤ 140737488351232 := by decide
theorem aw_pX : pX awS = awX := by unfold pX; rw [aw_parse]
theorem aw_pE : pE awS = 0 := by unfold pE; rw [aw_parse]
theorem aw_pE2 : pE ⟨#[91, 49, 46, 48, 93]⟩ = 300 := by unfold pE; rw [aw_no]
theorem toArr (l : List UInt8) (t : ByteArray) (h : l = t.data.toList) : (⟨l.toArray⟩ : ByteArray) = t := by subst h; cases t; simp

set_option maxRecDepth 100000 in
set_option maxHeartbeats 4000000 in
theorem awake_any (w : World) (htab : Tab w.heap.size w) : Calls Tryd.prog 9 #[] w fun e w' => e = .returned (.bool true) ∧ Below w.heap.size w w' := by
  have HT := Lib.hid htab
  clear htab
  go_enter Tryd.func9, Tryd.ntmps9
  go_wp2_with fail
  refine (parse2 awS w aw_size).mono ?_
  rintro e w1 ⟨a, b, c, d, f, g, rfl, hb1, hr1, _⟩
  obtain ⟨z1, z2, z3, z4, A1, l1, m1, A2, l2, m2, rfl, rfl, rfl, rfl, rfl, rfl⟩ := rep_form hr1
  rw [aw_pX] at hr1
  rw [aw_pE]
  have HJ1 := Lib.hid (JB.new w1 (.int .i64 z1) (.bool z2) (.int .i64 z3) (.string z4) (.slice A1 l1 m1) (.slice A2 l2 m2))
  have HB1 : Hid (Below w.heap.size w (w1.alloc (.cells #[.int .i64 z1, .bool z2, .int .i64 z3, .string z4, .slice A1 l1 m1, .slice A2 l2 m2] 25))) := hb1.alloc hb1.size _
  have HR1 := Lib.hid (hr1.stays ((Below.refl _ _).alloc (Nat.le_refl _) (.cells #[.int .i64 z1, .bool z2, .int .i64 z3, .string z4, .slice A1 l1 m1, .slice A2 l2 m2] 25)))
  clear hb1 hr1
  go_wp2_with fail
  generalize w1.alloc (.cells #[.int .i64 z1, .bool z2, .int .i64 z3, .string z4, .slice A1 l1 m1, .slice A2 l2 m2] 25) = W1 at HJ1 HB1 HR1 ⊢
  have HTW : Hid (Tab W1.heap.size W1) := (HT.out.on HB1.out).up HB1.out.size
  have HSM : Hid (Sm 65536 awX) := by have h := pX_sm awS; rw [aw_pX] at h; exact h
  refine (print_any 65536 (by omega) _ _ _ _ _ _ awX (fun k => w.heap.size ≤ k ∧ k < W1.heap.size) W1 (HR1.out.mono fun b hb hlt => ⟨⟨hb, hlt⟩, rfl⟩) (fun b hb => hb.2) HSM.out HTW.out).mono ?_
  rintro e w2 ⟨hb2, he⟩
  rw [aw_print] at he
  replace he : e = .returned (.tuple #[.string ⟨awT.data.toList.toArray⟩, .int .i64 0]) := he
  rw [toArr _ awT rfl] at he
  subst he
  have HJ2 := Lib.hid (HJ1.out.below hb2)
  have HB2 := Lib.hid (Below.trans2 HB1.out hb2)
  have HR2 := Lib.hid (HR1.out.stays hb2)
  clear hb2 HJ1 HR1 HB1 HTW
  go_wp2_with fail
  refine (parse2 ⟨#[91, 49, 46, 48, 93]⟩ w2 (by decide)).mono ?_
  rintro e w3 ⟨a, b, c, d, f, g, rfl, hb3, hr3, _⟩
  obtain ⟨y1, y2, y3, y4, B1, j1, n1, B2, j2, n2, rfl, rfl, rfl, rfl, rfl, rfl⟩ := rep_form hr3
  rw [aw_pE2]
  have hbx : Below w2.heap.size w2 (w3.alloc (.cells #[.int .i64 y1, .bool y2, .int .i64 y3, .string y4, .slice B1 j1 n1, .slice B2 j2 n2] 25)) := hb3.alloc hb3.size _
  have HJ3 := Lib.hid (HJ2.out.below hbx)
  have HB3 := Lib.hid (Below.trans2 HB2.out hbx)
  have HR3 := Lib.hid (HR2.out.stays hbx)
  have hj3 := HJ2.out.below hb3
  have k0 : ∀ o, (w3.alloc o).cell? ⟨w1.heap.size, 0, none⟩ = some (.int .i64 z1) := fun o => (hj3.alloc o).cell.1
  have k1 : ∀ o, (w3.alloc o).cell? ⟨w1.heap.size, 1, none⟩ = some (.bool z2) := fun o => (hj3.alloc o).cell.2.1
  have k2 : ∀ o, (w3.alloc o).cell? ⟨w1.heap.size, 2, none⟩ = some (.int .i64 z3) := fun o => (hj3.alloc o).cell.2.2.1
  have k3 : ∀ o, (w3.alloc o).cell? ⟨w1.heap.size, 3, none⟩ = some (.string z4) := fun o => (hj3.alloc o).cell.2.2.2.1
  have k4 : ∀ o, (w3.alloc o).cell? ⟨w1.heap.size, 4, none⟩ = some (.slice A1 l1 m1) := fun o => (hj3.alloc o).cell.2.2.2.2.1
  have k5 : ∀ o, (w3.alloc o).cell? ⟨w1.heap.size, 5, none⟩ = some (.slice A2 l2 m2) := fun o => (hj3.alloc o).cell.2.2.2.2.2
  clear hb3 hr3 hbx HJ2 HB2 HR2 hj3
  go_wp2_with fail
  clear k0 k1 k2 k3 k4 k5
  generalize w3.alloc (.cells #[.int .i64 y1, .bool y2, .int .i64 y3, .string y4, .slice B1 j1 n1, .slice B2 j2 n2] 25) = W3 at HJ3 HB3 HR3 ⊢
  refine (get_any 65536 (by omega) HSM.out ⟨#[97]⟩ _ W3 _ _ _ _ _ _ HR3.out).mono ?_
  rintro e w4 ⟨a, b, c, d, f, g, rfl, hb4, hr4⟩
  rw [aw_get] at hr4 ⊢
  replace hr4 : JRep w4 (fun k => W3.heap.size ≤ k) [a, b, c, d, f, g] awI := hr4
  obtain ⟨rfl, rfl, rfl, rfl, css, D1, d1, D2, d2, rfl, rfl, _, _, _, _⟩ := rep_parts (show JRep w4 _ [a, b, c, d, f, g] (.mk 4 false 0 ⟨#[]⟩ [.mk 2 false 1 ⟨#[]⟩ [] [], .mk 2 false (-2) ⟨#[]⟩ [] [], .mk 0 false 0 ⟨#[]⟩ [] [], .mk 3 false 0 ⟨#[120, 10]⟩ [] []] []) from hr4)
  have hbx : Below W3.heap.size W3 (w4.alloc (.cells #[.int .i64 4, .bool false, .int .i64 0, .string ⟨#[]⟩, .slice D1 4 d1, .slice D2 0 d2] 25)) := hb4.alloc hb4.size _
  have HV4 := Lib.hid (JB.new w4 (.int .i64 4) (.bool false) (.int .i64 0) (.string ⟨#[]⟩) (.slice D1 4 d1) (.slice D2 0 d2))
  have HJ4 := Lib.hid (HJ3.out.below hbx)
  have HB4 := Lib.hid (Below.trans2 HB3.out hbx)
  have HR4 := Lib.hid (HR3.out.stays hbx)
  have hz4 : W3.heap.size ≤ w4.heap.size := hb4.size
  have hj4 := HJ3.out.below hb4
  have k0 : ∀ o, (w4.alloc o).cell? ⟨w1.heap.size, 0, none⟩ = some (.int .i64 z1) := fun o => (hj4.alloc o).cell.1
  have k1 : ∀ o, (w4.alloc o).cell? ⟨w1.heap.size, 1, none⟩ = some (.bool z2) := fun o => (hj4.alloc o).cell.2.1
  have k2 : ∀ o, (w4.alloc o).cell? ⟨w1.heap.size, 2, none⟩ = some (.int .i64 z3) := fun o => (hj4.alloc o).cell.2.2.1
  have k3 : ∀ o, (w4.alloc o).cell? ⟨w1.heap.size, 3, none⟩ = some (.string z4) := fun o => (hj4.alloc o).cell.2.2.2.1
  have k4 : ∀ o, (w4.alloc o).cell? ⟨w1.heap.size, 4, none⟩ = some (.slice A1 l1 m1) := fun o => (hj4.alloc o).cell.2.2.2.2.1
  have k5 : ∀ o, (w4.alloc o).cell? ⟨w1.heap.size, 5, none⟩ = some (.slice A2 l2 m2) := fun o => (hj4.alloc o).cell.2.2.2.2.2
  clear hb4 hr4 hbx HJ3 HB3 HR3 hj4
  go_wp2_with fail
  clear k0 k1 k2 k3 k4 k5
  generalize w4.alloc (.cells #[.int .i64 4, .bool false, .int .i64 0, .string ⟨#[]⟩, .slice D1 4 d1, .slice D2 0 d2] 25) = W4 at HV4 HJ4 HB4 HR4 ⊢
  refine (get_any 65536 (by omega) HSM.out ⟨#[98]⟩ _ W4 _ _ _ _ _ _ HR4.out).mono ?_
  rintro e w5 ⟨a, b, c, d, f, g, rfl, hb5, hr5⟩
  rw [aw_none] at hr5 ⊢
  obtain ⟨x1, x2, x3, x4, E1, q1, o1, E2, q2, o2, rfl, rfl, rfl, rfl, rfl, rfl⟩ := rep_form hr5
  have HB5 : Hid (Below w.heap.size w (w5.alloc (.cells #[.int .i64 x1, .bool x2, .int .i64 x3, .string x4, .slice E1 q1 o1, .slice E2 q2 o2] 25))) := (Below.trans2 HB4.out hb5).alloc (Below.trans2 HB4.out hb5).size _
  have hv5 := HV4.out.below hb5
  have v4 : ∀ o, (w5.alloc o).cell? ⟨w4.heap.size, 4, none⟩ = some (.slice D1 4 d1) := fun o => (hv5.alloc o).cell.2.2.2.2.1
  have hn := num_any
  have e1 : awT.toList = [123, 34, 97, 34, 58, 91, 49, 44, 45, 50, 44, 110, 117, 108, 108, 44, 34, 120, 92, 110, 34, 93, 125] := by rw [ba_toList]; rfl
  clear hb5 hr5 hv5 HV4 HJ4 HB4 HR4 HSM hn
  go_wp2_with (go_at_call 8; refine (num_any _ _).mono ?_; rintro e w9 ⟨rfl, rfl⟩)
  go_ret
  exact ⟨rfl, HB5.out⟩

end Go.Proofs.YtbhnfehpbbibbaaDoor
