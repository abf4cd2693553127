/- Package json's parser: inner, from what value comes to. -/
import Derived.Test.YtbhnfehpbbibbaaDoorM07
import Derived.Deep.RegionWith
import Derived.Deep.RegionHeld3
import Derived.Deep.RegionLaw
import Derived.RegionDies

namespace Go.Proofs.YtbhnfehpbbibbaaDoor
open Go.RowKit

set_option maxRecDepth 100000 in
set_option maxHeartbeats 4000000 in
theorem inner_zero : InnerC 0 := by
  intro g s i obj C D w hs hi h hC hbt hD
  have hD1 : 16 < D := by omega
  clear hC hbt hD
  go_enter Tryd.func29, Tryd.ntmps29
  go_wp2_with fail
  exact ⟨rfl, JPost.no (c := 301) rfl ⟨rfl, (But.refl g w).alloc _⟩⟩

theorem InnerI.start {s : ByteArray} {g i k : Nat} {obj : Bool} {w w1 : World} {v : Value} (h : PS w g s i) (hk : k ≤ s.size) (hp : PS w1 g s k)
    (hb : But g ((((w.alloc (.cells #[.int .i64 0, .bool false, .int .i64 0, .string ⟨#[]⟩, .slice none 0 0, .slice none 0 0] 25)).alloc (.cells #[.int .i64 (if obj then 5 else 4), .bool false, .int .i64 0, .string ⟨#[]⟩, .slice none 0 0, .slice none 0 0] 25)).alloc (.map #[] 0)).setCell ⟨g, 1, none⟩ v) w1) :
    InnerI s g w.heap.size (w.heap.size + 1) (w.heap.size + 1 + 1) w1.heap.size obj w w1 k [] [] (.slice none 0 0) (.slice none 0 0) [] ∧ w.heap.size + 3 ≤ w1.heap.size := by
  have hgl := h.lt
  have j1 := JB.new w (.int .i64 0) (.bool false) (.int .i64 0) (.string ⟨#[]⟩) (.slice none 0 0) (.slice none 0 0)
  generalize hwa : w.alloc (.cells #[.int .i64 0, .bool false, .int .i64 0, .string ⟨#[]⟩, .slice none 0 0, .slice none 0 0] 25) = wa at *
  have sa : wa.heap.size = w.heap.size + 1 := by rw [← hwa]; simp
  have j2 := JB.new wa (.int .i64 (if obj then 5 else 4)) (.bool false) (.int .i64 0) (.string ⟨#[]⟩) (.slice none 0 0) (.slice none 0 0)
  generalize hwb : wa.alloc (.cells #[.int .i64 (if obj then 5 else 4), .bool false, .int .i64 0, .string ⟨#[]⟩, .slice none 0 0, .slice none 0 0] 25) = wb at *
  have sb : wb.heap.size = w.heap.size + 1 + 1 := by rw [← hwb]; simp [sa]
  have j3 := Seen.new wb
  have b0 : But g w wb := by rw [← hwb, ← hwa]; exact ((But.refl g w).alloc _).alloc _
  have b1 : But g wa wb := by rw [← hwb]; exact (But.refl g wa).alloc _
  have b2 : But g wb ((wb.alloc (.map #[] 0)).setCell ⟨g, 1, none⟩ v) := ((But.refl g wb).alloc _).setOwn _ _
  have b3 : But g (wb.alloc (.map #[] 0)) ((wb.alloc (.map #[] 0)).setCell ⟨g, 1, none⟩ v) := (But.refl g _).setOwn _ _
  have sc : ((wb.alloc (.map #[] 0)).setCell ⟨g, 1, none⟩ v).heap.size = w.heap.size + 3 := by simp [World.setCell, sb]
  refine ⟨⟨hp, (b0.trans b2).trans hb, ((j1.but b1 (by omega)).but b2 (by omega)).but hb (by omega), ?_, ?_, World.ownsRow_nil _ _ _ _, rfl, by simp, by intro i cs x hi; simp at hi, World.ownsRow_nil _ _ _ _, by simp, by simp, hk, Nat.le_refl _⟩, by have := hb.size; omega⟩
  · rw [← sa]; exact (j2.but b2 (by omega)).but hb (by omega)
  · rw [← sb]; exact (j3.kept b3.grownBy (fun e => by injection e with e; omega)).kept hb.grownBy (fun e => by injection e with e; omega)
theorem InnerI.drew {s : ByteArray} {g R B M base : Nat} {obj : Bool} {w wr : World} {k : Nat} {keys : List ByteArray} {l : List J} {Lv Kv : Value} {css : List (List Value)} (h : InnerI s g R B M base obj w wr k keys l Lv Kv css) : InnerI s g R B M base obj w wr.drew k keys l Lv Kv css :=
  ⟨h.ps, h.but.drew, h.res, h.out, h.seen, h.ownL, h.cssl, h.six, fun i cs x hi hx => (h.rep i cs x hi hx).mono fun b hb1 _ => ⟨hb1, rfl⟩, h.ownK, h.lenL, h.lenK, h.kle, h.ble⟩
theorem JB.grown2 {w4 w6 : World} {B : Nat} {a b c d e f : Value} {o : Obj} {row : Option Nat} (h : JB w4 B a b c d e f) (hg : (w4.alloc o).grownBy w6 row) (hne : some B ≠ row) : JB w6 B a b c d e f :=
  (hg.block B (by have := h.lt; simp; omega) hne).trans ((Below.heap_alloc w4 o B h.lt).trans h)
theorem InnerI.neL {s : ByteArray} {g R B M base : Nat} {obj : Bool} {w wr : World} {k : Nat} {keys : List ByteArray} {l : List J} {Lv Kv : Value} {css : List (List Value)} (h : InnerI s g R B M base obj w wr k keys l Lv Kv css) {z : Nat} (hz : z < base) : some z ≠ Lv.ownBlock := fun e => by have := (World.ownsRow.lt h.ownL z e.symm).1; omega
theorem own_form {w : World} {base e sz n : Nat} {v : Value} {xs : List Value} (h : w.ownsRow base e sz v n xs) : ∃ A c, v = .slice A n c := by
  rcases h.2 with ⟨rfl, rfl⟩ | ⟨g, cap, cur, rfl, _⟩
  · exact ⟨_, _, rfl⟩
  · exact ⟨_, _, rfl⟩
theorem flat1 : ∀ keys : List ByteArray, (keys.map fun t => [Value.string t]).flatten = keys.map Value.string
  | [] => rfl
  | k :: keys => by simp only [List.map_cons, List.flatten_cons, flat1 keys]; rfl
/-- what has been read, at its end -/
theorem InnerI.rep_end {s : ByteArray} {g R B M base : Nat} {obj : Bool} {w wr : World} {k : Nat} {keys : List ByteArray} {l : List J} {Lv Kv : Value} {css : List (List Value)} (h : InnerI s g R B M base obj w wr k keys l Lv Kv css) :
    JRep wr (fun b => base ≤ b) [.int .i64 (if obj then 5 else 4), .bool false, .int .i64 0, .string ⟨#[]⟩, Lv, Kv] (.mk (if obj then 5 else 4) false 0 ⟨#[]⟩ l keys) :=
  .mk css h.cssl (own_row h.ownL h.cssl.symm h.six) (fun i cs x hi hx => (h.rep i cs x hi hx).mono fun b hb1 _ => ⟨hb1.1, rfl⟩)
    (own_row (sz := 1) (css := keys.map fun t => [Value.string t]) (by rw [flat1]; exact h.ownK) (by simp) (by simp))
theorem InnerI.own_end {s : ByteArray} {g R B M base : Nat} {obj : Bool} {w wr : World} {k : Nat} {keys : List ByteArray} {l : List J} {Lv Kv : Value} {css : List (List Value)} (h : InnerI s g R B M base obj w wr k keys l Lv Kv css) (a b c d : Value) :
    JOwn wr base [a, b, c, d, Lv, Kv] := ⟨Lv, Kv, _, _, _, _, rfl, rfl, h.ownL, h.ownK⟩
theorem jinfo : (Tryd.prog.info? 25).map (fun i => (i.zero, i.size, i.bytes)) = some (some (.agg #[.int .i64 0, .bool false, .int .i64 0, .string ⟨#[]⟩, .slice none 0 0, .slice none 0 0]), 6, 88) := by kernel_rfl
theorem sinfo : (Tryd.prog.info? 9).map (fun i => (i.zero, i.size, i.bytes)) = some (some (.string ⟨#[]⟩), 1, 16) := by kernel_rfl

set_option maxRecDepth 100000 in
set_option maxHeartbeats 16000000 in
theorem inner_succ_list (lv : Nat) (hlv : lv < 16) (hv : ValueC lv) (g : Nat) (s : ByteArray) (i : Nat) (D : Int) (w : World) (hs : s.size ≤ 65536) (hi : i < s.size) (h : PS w g s i) (hD : D + (lv + 1 : Nat) = 17) :
    Calls Tryd.prog 29 #[.pointer (some ⟨g, 0, none⟩), .int .u8 91, .int .i64 D] w (JPost g s (innerS s (lv + 1) i false) w) := by
  have HP := Lib.hid h
  have hs2 : s.size ≤ 140737488351232 := by omega
  have hgl := h.lt
  have HV := Lib.hid hv
  have HD := Lib.hid hD
  have hD1 : D ≤ 16 := by omega
  have hD0 : 0 ≤ D := by omega
  have hmm := @run_makeMap Tryd.prog
  obtain ⟨i0, hinfo, hz0, hz1, hz2⟩ := info_parts jinfo
  obtain ⟨i1, hinfo1, hy0, hy1, hy2⟩ := info_parts sinfo
  have p3 : ∀ a b : Obj, PS (((w.alloc a).alloc b).alloc (.map #[] 0)) g s i := fun a b => ((h.alloc a).alloc b).alloc _
  have p1 : ∀ a b : Obj, (((w.alloc a).alloc b).alloc (.map #[] 0)).cell? ⟨g, 1, none⟩ = some (.int .i64 i) := fun a b => (p3 a b).c1
  have p2 : ∀ a b : Obj, (((w.alloc a).alloc b).alloc (.map #[] 0)).frozen? ⟨g, 1, none⟩ = false := fun a b => (p3 a b).f1
  have P3 := Lib.hid p3
  clear h hv hD p3
  go_enter Tryd.func29, Tryd.ntmps29
  go_wp2_with fail
  refine (white_any g s (i + 1) _ hs2 (by omega) ?hps).mono ?_
  case hps => exact (P3.out _ _).set _ _ (by go_num)
  rintro e w1 ⟨rfl, hp, hb⟩
  have hwk := whS_le s (i + 1) (by omega)
  obtain ⟨hI, hsz⟩ := InnerI.start (obj := false) HP.out hwk.2 hp hb
  have hord : Hid (g < w.heap.size ∧ w.heap.size < w1.heap.size ∧ g < w.heap.size + 1 ∧ w.heap.size + 1 < w1.heap.size ∧ g < w.heap.size + 1 + 1 ∧ w.heap.size + 1 + 1 < w1.heap.size) := ⟨by omega, by omega, by omega, by omega, by omega, by omega⟩
  have HI := Lib.hid hI
  clear hp hb p1 p2 hI
  go_wp2_with fail
  go_loopg [10] (s.size + 1 - whS s (i + 1)) (fun n v10 wr => ∃ (k : Nat) (keys : List ByteArray) (l : List J) (Lv Kv : Value) (css : List (List Value)) (f : Nat) (first : Bool), v10 = .bool first ∧ k ≤ s.size ∧ s.size < f + k ∧ n = s.size + 1 - k ∧ Hid (InnerI s g w.heap.size (w.heap.size + 1) (w.heap.size + 1 + 1) w1.heap.size false w wr k keys l Lv Kv css ∧ innerS s (lv + 1) i false = seqS s (valS s lv) false f first k keys l))
  case atStart => exact ⟨whS s (i + 1), [], [], _, _, [], s.size + 1, true, rfl, hwk.2, by omega, rfl, HI.out, rfl⟩
  case round =>
    obtain ⟨k, keys, l, Lv, Kv, css, f, first, rfl, hk, hf, hn, H⟩ := hrel
    have HN := Lib.hid hn
    clear hn HI
    obtain ⟨f, rfl⟩ : ∃ f', f = f' + 1 := ⟨f - 1, by omega⟩
    have HS : Hid (innerS s (lv + 1) i false = if bt s k = 93 then .ok (.mk 4 false 0 ⟨#[]⟩ l keys, k + 1) else if !first && bt s k != 44 then .error 300 else memS s (valS s lv) false f (if first then k else whS s (k + 1)) keys l) := by show _ = _; rw [H.out.2, seq_eq]; rfl
    go_wp2_with fail
    refine (next_at g s k _ hs2 H.out.1.ps).mono ?_
    rintro e w2 ⟨C, rfl, HC, ⟨hC0, hC1⟩, hp, hb⟩
    have HI := Lib.hid (H.out.1.next hord.out hp hb (Nat.le_refl _) hk)
    clear hp hb H
    by_cases hend : C = 93
    · subst hend
      have HE : Hid (innerS s (lv + 1) i false = .ok (.mk 4 false 0 ⟨#[]⟩ l keys, k + 1)) := by show _ = _; rw [HS.out, if_pos (by have := HC.out; omega)]
      obtain ⟨A1, c1, hLf⟩ := own_form HI.out.ownL
      obtain ⟨A2, c2, hKf⟩ := own_form HI.out.ownK
      subst hLf hKf
      have q1 := HI.out.ps.c1
      have q2 := HI.out.ps.f1
      have hb3 : But g w2 (w2.setCell ⟨g, 1, none⟩ (.int .i64 ((k : Int) + 1))) := (But.refl g w2).setOwn _ _
      have hp3 : PS (w2.setCell ⟨g, 1, none⟩ (.int .i64 ((k : Int) + 1))) g s (k + 1) := HI.out.ps.set _ _ (by go_num)
      have hkl : k + 1 ≤ s.size := bt_in (s := s) (i := k) (by have := HC.out; omega)
      have HI3 := Lib.hid (HI.out.next hord.out hp3 hb3 (Nat.le_succ k) hkl)
      obtain ⟨b0, b1, b2, b3, b4, b5⟩ := HI3.out.out.cell
      obtain ⟨r0, r1, r2, r3, r4, r5⟩ := HI3.out.res.cell
      have f0 := HI3.out.res.frozen 0
      have f1 := HI3.out.res.frozen 1
      have f2 := HI3.out.res.frozen 2
      have f3 := HI3.out.res.frozen 3
      have f4 := HI3.out.res.frozen 4
      have f5 := HI3.out.res.frozen 5
      simp only [if_true, Bool.false_eq_true, if_false] at b0
      clear hb3 hp3
      go_wp2_with fail
      refine ret_json Tryd.results29 rfl HI3.out.res fun W ho hj => ?_
      exact JPost.yes HE.out ⟨rfl, HI3.out.ps.only ho (by omega), HI3.out.but.only ho (Nat.le_refl _)⟩ (HI3.out.rep_end.only ho hord.out.2.1 (by omega)) ((HI3.out.own_end _ _ _ _).only ho hord.out.2.1 (by omega))
    · have HS2 : Hid (innerS s (lv + 1) i false = if !first && bt s k != 44 then .error 300 else memS s (valS s lv) false f (if first then k else whS s (k + 1)) keys l) := by show _ = _; rw [HS.out, if_neg (by have := HC.out; omega)]
      have hendb : (C != 93) = true := bne_iff_ne.2 hend
      cases first with
      | true =>
        obtain ⟨k1, hk1e⟩ : ∃ k1, k1 = k := ⟨_, rfl⟩
        subst hk1e
        have HS1 : Hid (innerS s (lv + 1) i false = memS s (valS s lv) false f k1 keys l) := HS2.out
        have HI1 := HI
        have hk1 := hk
        have hlt : l.length ≤ k1 := HI1.out.lenL
        have HM : Hid (innerS s (lv + 1) i false = match valS s lv k1 with | .error e => .error e | .ok (j, i3) => seqS s (valS s lv) false f false (whS s i3) keys (l ++ [j])) := HS1.out
        have b4 := HI1.out.out.cell.2.2.2.2.1
        have b0 := HI1.out.out.cell.1
        simp only [if_true, Bool.false_eq_true, if_false] at b0
        cases hval : valS s lv k1 with
        | error c =>
          have HE : Hid (innerS s (lv + 1) i false = .error c) := by show _ = _; rw [HM.out, hval]
          have HVAL := Lib.hid hval
          clear hval
          go_wp2_with fail
          go_region_dies
          all_goals
            refine (HV.out g s k1 _ _ hs hk1 (by exact HI1.out.ps) (by have := HD.out; omega)).mono ?_
            intro e w4 hx
            obtain ⟨rfl, hb4⟩ := hx.at_error HVAL.out
            exact ⟨rfl, JPost.no HE.out ⟨rfl, (HI1.out.but.drew).trans hb4⟩⟩
        | ok p =>
          obtain ⟨x, i3⟩ := p
          have hin := valS_in s lv k1 x i3 hk1 hval
          have HVAL := Lib.hid hval
          have HS3 : Hid (innerS s (lv + 1) i false = seqS s (valS s lv) false f false (whS s i3) keys (l ++ [x])) := by show _ = _; rw [HM.out, hval]
          clear hval
          go_wp2_with fail
          go_region_law (first | (refine step_append_lies _ (by rfl) _ _ 22 (by rfl) w1.heap.size 25 i0 _ 6 88 Tryd.underlying22 hinfo hz0 hz1 hz2 rfl (by omega) Lv l.length css.flatten (by rfl) (by exact World.ownsRow.alloc HI4.out.ownL _) ⟨w4.heap.size, 0, none⟩ 1 1 [.int .i64 z1, .bool z2, .int .i64 z3, .string z4, .slice A1 l1 m1, .slice A2 l2 m2] (by rfl) (by rfl) (World.news_of_block (cs := #[.int .i64 z1, .bool z2, .int .i64 z3, .string z4, .slice A1 l1 m1, .slice A2 l2 m2]) (t := 25) (fr := (0, 0)) (heap_alloc_new w4 _)) (by simp [Value.oneCell']) (by omega) (by unfold maxLen; omega) (by omega) (by have := HI4.out.ble; simp; omega) (w4.heap.size + 1) (by simp) ?_; intro gg cap w6 hown6 hgr6 hat hlt; have J6 := HI4.out.out.grown2 hgr6 (HI4.out.neL hord.out.2.2.2.1); have q6 := J6.cell.2.2.2.2.1; have f6 := J6.frozen 4; clear J6) | (go_simp; go_at_call 16; refine (HV.out g s k1 _ _ hs hk1 (by exact HI1.out.ps) (by have := HD.out; omega)).mono ?_; intro e w4 hx; obtain ⟨a, b, c, d, Lx, Kx, ⟨rfl, hp4, hb4⟩, hr4, hw4⟩ := hx.at_ok HVAL.out; obtain ⟨z1, z2, z3, z4, A1, l1, m1, A2, l2, m2, rfl, rfl, rfl, rfl, rfl, rfl⟩ := rep_form hr4; have HI4 := Lib.hid (HI1.out.drew.next hord.out hp4 hb4 (by omega) hin.2); have HR4 := Lib.hid hr4; have q4 := HI4.out.out.cell.2.2.2.2.1; have l4 := HI4.out.out.lt; clear hx hp4 hb4 hr4 hw4))
          all_goals
            have hw2 : Hid (w2.heap.size = w2.drew.heap.size) := rfl
            have HX : Hid (JRep w4 (fun b => w1.heap.size ≤ b ∧ Lv.ownBlock ≠ some b ∧ Kv.ownBlock ≠ some b) [.int .i64 z1, .bool z2, .int .i64 z3, .string z4, .slice A1 l1 m1, .slice A2 l2 m2] x) := HR4.out.mono fun b hb1 _ => by
              have e1 := HI1.out.ble
              have e2 := hw2.out
              refine ⟨⟨by omega, fun e => ?_, fun e => ?_⟩, rfl⟩
              · have := (World.ownsRow.lt HI1.out.ownL b e).2; omega
              · have := (World.ownsRow.lt HI1.out.ownK b e).2; omega
            have HI6 := Lib.hid (HI4.out.addMember hord.out (by omega) (by omega) ((Below.refl _ _).alloc (Nat.le_refl _) _) HX.out rfl hown6 hgr6 (fun j hj => by rcases hat with h | h <;> injection hj with hj <;> simp only at hj; exact .inl (by rw [← hj]; exact h); exact .inr (by omega)) (by omega))
            have hwk3 := whS_le s i3 hin.2
            clear hat hown6 hgr6 q4 q6 f6 HI4 HX b4 b0
            go_wp2_with fail
            refine (white_any g s i3 _ hs2 hin.2 HI6.out.ps).mono ?_
            rintro e w8 ⟨rfl, hp8, hb8⟩
            have HI8 := Lib.hid (HI6.out.next hord.out hp8 hb8 (by omega) hwk3.2)
            clear hp8 hb8 HI6
            go_wp2_with fail
            go_roundg (s.size + 1 - whS s i3)
            case measure => have := HN.out; omega
            case rel => exact ⟨whS s i3, _, _, _, _, _, f, false, rfl, hwk3.2, by omega, rfl, HI8.out, HS3.out⟩
      | false =>
        by_cases hcm : C = 44
        · obtain ⟨k1, hk1e⟩ : ∃ k1, k1 = whS s (k + 1) := ⟨_, rfl⟩
          have hkl : k + 1 ≤ s.size := bt_in (s := s) (i := k) (by have := HC.out; omega)
          have hwk1 := whS_le s (k + 1) hkl
          have HS1 : Hid (innerS s (lv + 1) i false = memS s (valS s lv) false f k1 keys l) := by show _ = _; rw [HS2.out, hk1e, if_neg (by have := HC.out; simp; omega)]; rfl
          have hk1 : k1 ≤ s.size := by omega
          have hkk1 : k < k1 := by omega
          have HK1 := Lib.hid hk1e
          clear hk1e hwk1
          go_wp2_with fail
          refine (take_ok g s k _ _ hs2 HI.out.ps (by omega) (by have := HC.out; omega)).mono ?_
          rintro e w9 ⟨rfl, hp9, hb9⟩
          have HI9 := Lib.hid (HI.out.next hord.out hp9 hb9 (by omega) hkl)
          clear hp9 hb9
          go_wp2_with fail
          refine (white_any g s (k + 1) _ hs2 hkl HI9.out.ps).mono ?_
          rintro e w10 ⟨rfl, hp10, hb10⟩
          rw [← HK1.out] at hp10
          have HI1 := Lib.hid (HI9.out.next hord.out hp10 hb10 (by have := HK1.out; omega) hk1)
          have hlt : l.length ≤ k1 := HI1.out.lenL
          clear hp10 hb10 HI HI9
          obtain ⟨w2, hw2e⟩ : ∃ z : World, z = w10 := ⟨_, rfl⟩
          subst hw2e
          have HM : Hid (innerS s (lv + 1) i false = match valS s lv k1 with | .error e => .error e | .ok (j, i3) => seqS s (valS s lv) false f false (whS s i3) keys (l ++ [j])) := HS1.out
          have b4 := HI1.out.out.cell.2.2.2.2.1
          have b0 := HI1.out.out.cell.1
          simp only [if_true, Bool.false_eq_true, if_false] at b0
          cases hval : valS s lv k1 with
          | error c =>
            have HE : Hid (innerS s (lv + 1) i false = .error c) := by show _ = _; rw [HM.out, hval]
            have HVAL := Lib.hid hval
            clear hval
            go_wp2_with fail
            go_region_dies
            all_goals
              refine (HV.out g s k1 _ _ hs hk1 (by exact HI1.out.ps) (by have := HD.out; omega)).mono ?_
              intro e w4 hx
              obtain ⟨rfl, hb4⟩ := hx.at_error HVAL.out
              exact ⟨rfl, JPost.no HE.out ⟨rfl, (HI1.out.but.drew).trans hb4⟩⟩
          | ok p =>
            obtain ⟨x, i3⟩ := p
            have hin := valS_in s lv k1 x i3 hk1 hval
            have HVAL := Lib.hid hval
            have HS3 : Hid (innerS s (lv + 1) i false = seqS s (valS s lv) false f false (whS s i3) keys (l ++ [x])) := by show _ = _; rw [HM.out, hval]
            clear hval
            go_wp2_with fail
            go_region_law (first | (refine step_append_lies _ (by rfl) _ _ 22 (by rfl) w1.heap.size 25 i0 _ 6 88 Tryd.underlying22 hinfo hz0 hz1 hz2 rfl (by omega) Lv l.length css.flatten (by rfl) (by exact World.ownsRow.alloc HI4.out.ownL _) ⟨w4.heap.size, 0, none⟩ 1 1 [.int .i64 z1, .bool z2, .int .i64 z3, .string z4, .slice A1 l1 m1, .slice A2 l2 m2] (by rfl) (by rfl) (World.news_of_block (cs := #[.int .i64 z1, .bool z2, .int .i64 z3, .string z4, .slice A1 l1 m1, .slice A2 l2 m2]) (t := 25) (fr := (0, 0)) (heap_alloc_new w4 _)) (by simp [Value.oneCell']) (by omega) (by unfold maxLen; omega) (by omega) (by have := HI4.out.ble; simp; omega) (w4.heap.size + 1) (by simp) ?_; intro gg cap w6 hown6 hgr6 hat hlt; have J6 := HI4.out.out.grown2 hgr6 (HI4.out.neL hord.out.2.2.2.1); have q6 := J6.cell.2.2.2.2.1; have f6 := J6.frozen 4; clear J6) | (go_simp; go_at_call 16; refine (HV.out g s k1 _ _ hs hk1 (by exact HI1.out.ps) (by have := HD.out; omega)).mono ?_; intro e w4 hx; obtain ⟨a, b, c, d, Lx, Kx, ⟨rfl, hp4, hb4⟩, hr4, hw4⟩ := hx.at_ok HVAL.out; obtain ⟨z1, z2, z3, z4, A1, l1, m1, A2, l2, m2, rfl, rfl, rfl, rfl, rfl, rfl⟩ := rep_form hr4; have HI4 := Lib.hid (HI1.out.drew.next hord.out hp4 hb4 (by omega) hin.2); have HR4 := Lib.hid hr4; have q4 := HI4.out.out.cell.2.2.2.2.1; have l4 := HI4.out.out.lt; clear hx hp4 hb4 hr4 hw4))
            all_goals
              have hw2 : Hid (w2.heap.size = w2.drew.heap.size) := rfl
              have HX : Hid (JRep w4 (fun b => w1.heap.size ≤ b ∧ Lv.ownBlock ≠ some b ∧ Kv.ownBlock ≠ some b) [.int .i64 z1, .bool z2, .int .i64 z3, .string z4, .slice A1 l1 m1, .slice A2 l2 m2] x) := HR4.out.mono fun b hb1 _ => by
                have e1 := HI1.out.ble
                have e2 := hw2.out
                refine ⟨⟨by omega, fun e => ?_, fun e => ?_⟩, rfl⟩
                · have := (World.ownsRow.lt HI1.out.ownL b e).2; omega
                · have := (World.ownsRow.lt HI1.out.ownK b e).2; omega
              have HI6 := Lib.hid (HI4.out.addMember hord.out (by omega) (by omega) ((Below.refl _ _).alloc (Nat.le_refl _) _) HX.out rfl hown6 hgr6 (fun j hj => by rcases hat with h | h <;> injection hj with hj <;> simp only at hj; exact .inl (by rw [← hj]; exact h); exact .inr (by omega)) (by omega))
              have hwk3 := whS_le s i3 hin.2
              clear hat hown6 hgr6 q4 q6 f6 HI4 HX b4 b0
              go_wp2_with fail
              refine (white_any g s i3 _ hs2 hin.2 HI6.out.ps).mono ?_
              rintro e w8 ⟨rfl, hp8, hb8⟩
              have HI8 := Lib.hid (HI6.out.next hord.out hp8 hb8 (by omega) hwk3.2)
              clear hp8 hb8 HI6
              go_wp2_with fail
              go_roundg (s.size + 1 - whS s i3)
              case measure => have := HN.out; omega
              case rel => exact ⟨whS s i3, _, _, _, _, _, f, false, rfl, hwk3.2, by omega, rfl, HI8.out, HS3.out⟩
        · have HE : Hid (innerS s (lv + 1) i false = .error 300) := by show _ = _; rw [HS2.out, if_pos (by have := HC.out; simp; omega)]
          go_wp2_with fail
          refine (take_err g s k _ _ hs2 HI.out.ps (by have := HC.out; omega)).mono ?_
          rintro e w9 ⟨rfl, hb9⟩
          exact ⟨rfl, JPost.no HE.out ⟨rfl, HI.out.but.trans hb9⟩⟩

set_option maxRecDepth 100000 in
set_option maxHeartbeats 16000000 in
theorem inner_succ_obj (lv : Nat) (hlv : lv < 16) (hv : ValueC lv) (g : Nat) (s : ByteArray) (i : Nat) (D : Int) (w : World) (hs : s.size ≤ 65536) (hi : i < s.size) (h : PS w g s i) (hD : D + (lv + 1 : Nat) = 17) :
    Calls Tryd.prog 29 #[.pointer (some ⟨g, 0, none⟩), .int .u8 123, .int .i64 D] w (JPost g s (innerS s (lv + 1) i true) w) := by
  have HP := Lib.hid h
  have hs2 : s.size ≤ 140737488351232 := by omega
  have hgl := h.lt
  have HV := Lib.hid hv
  have HD := Lib.hid hD
  have hD1 : D ≤ 16 := by omega
  have hD0 : 0 ≤ D := by omega
  have hmm := @run_makeMap Tryd.prog
  obtain ⟨i0, hinfo, hz0, hz1, hz2⟩ := info_parts jinfo
  obtain ⟨i1, hinfo1, hy0, hy1, hy2⟩ := info_parts sinfo
  have p3 : ∀ a b : Obj, PS (((w.alloc a).alloc b).alloc (.map #[] 0)) g s i := fun a b => ((h.alloc a).alloc b).alloc _
  have p1 : ∀ a b : Obj, (((w.alloc a).alloc b).alloc (.map #[] 0)).cell? ⟨g, 1, none⟩ = some (.int .i64 i) := fun a b => (p3 a b).c1
  have p2 : ∀ a b : Obj, (((w.alloc a).alloc b).alloc (.map #[] 0)).frozen? ⟨g, 1, none⟩ = false := fun a b => (p3 a b).f1
  have P3 := Lib.hid p3
  clear h hv hD p3
  go_enter Tryd.func29, Tryd.ntmps29
  go_wp2_with fail
  refine (white_any g s (i + 1) _ hs2 (by omega) ?hps).mono ?_
  case hps => exact (P3.out _ _).set _ _ (by go_num)
  rintro e w1 ⟨rfl, hp, hb⟩
  have hwk := whS_le s (i + 1) (by omega)
  obtain ⟨hI, hsz⟩ := InnerI.start (obj := true) HP.out hwk.2 hp hb
  have hord : Hid (g < w.heap.size ∧ w.heap.size < w1.heap.size ∧ g < w.heap.size + 1 ∧ w.heap.size + 1 < w1.heap.size ∧ g < w.heap.size + 1 + 1 ∧ w.heap.size + 1 + 1 < w1.heap.size) := ⟨by omega, by omega, by omega, by omega, by omega, by omega⟩
  have HI := Lib.hid hI
  clear hp hb p1 p2 hI
  go_wp2_with fail
  go_loopg [10] (s.size + 1 - whS s (i + 1)) (fun n v10 wr => ∃ (k : Nat) (keys : List ByteArray) (l : List J) (Lv Kv : Value) (css : List (List Value)) (f : Nat) (first : Bool), v10 = .bool first ∧ k ≤ s.size ∧ s.size < f + k ∧ n = s.size + 1 - k ∧ Hid (InnerI s g w.heap.size (w.heap.size + 1) (w.heap.size + 1 + 1) w1.heap.size true w wr k keys l Lv Kv css ∧ innerS s (lv + 1) i true = seqS s (valS s lv) true f first k keys l))
  case atStart => exact ⟨whS s (i + 1), [], [], _, _, [], s.size + 1, true, rfl, hwk.2, by omega, rfl, HI.out, rfl⟩
  case round =>
    obtain ⟨k, keys, l, Lv, Kv, css, f, first, rfl, hk, hf, hn, H⟩ := hrel
    have HN := Lib.hid hn
    clear hn HI
    obtain ⟨f, rfl⟩ : ∃ f', f = f' + 1 := ⟨f - 1, by omega⟩
    have HS : Hid (innerS s (lv + 1) i true = if bt s k = 125 then .ok (.mk 5 false 0 ⟨#[]⟩ l keys, k + 1) else if !first && bt s k != 44 then .error 300 else memS s (valS s lv) true f (if first then k else whS s (k + 1)) keys l) := by show _ = _; rw [H.out.2, seq_eq]; rfl
    go_wp2_with fail
    refine (next_at g s k _ hs2 H.out.1.ps).mono ?_
    rintro e w2 ⟨C, rfl, HC, ⟨hC0, hC1⟩, hp, hb⟩
    have HI := Lib.hid (H.out.1.next hord.out hp hb (Nat.le_refl _) hk)
    clear hp hb H
    by_cases hend : C = 125
    · subst hend
      have HE : Hid (innerS s (lv + 1) i true = .ok (.mk 5 false 0 ⟨#[]⟩ l keys, k + 1)) := by show _ = _; rw [HS.out, if_pos (by have := HC.out; omega)]
      obtain ⟨A1, c1, hLf⟩ := own_form HI.out.ownL
      obtain ⟨A2, c2, hKf⟩ := own_form HI.out.ownK
      subst hLf hKf
      have q1 := HI.out.ps.c1
      have q2 := HI.out.ps.f1
      have hb3 : But g w2 (w2.setCell ⟨g, 1, none⟩ (.int .i64 ((k : Int) + 1))) := (But.refl g w2).setOwn _ _
      have hp3 : PS (w2.setCell ⟨g, 1, none⟩ (.int .i64 ((k : Int) + 1))) g s (k + 1) := HI.out.ps.set _ _ (by go_num)
      have hkl : k + 1 ≤ s.size := bt_in (s := s) (i := k) (by have := HC.out; omega)
      have HI3 := Lib.hid (HI.out.next hord.out hp3 hb3 (Nat.le_succ k) hkl)
      obtain ⟨b0, b1, b2, b3, b4, b5⟩ := HI3.out.out.cell
      obtain ⟨r0, r1, r2, r3, r4, r5⟩ := HI3.out.res.cell
      have f0 := HI3.out.res.frozen 0
      have f1 := HI3.out.res.frozen 1
      have f2 := HI3.out.res.frozen 2
      have f3 := HI3.out.res.frozen 3
      have f4 := HI3.out.res.frozen 4
      have f5 := HI3.out.res.frozen 5
      simp only [if_true, Bool.false_eq_true, if_false] at b0
      clear hb3 hp3
      go_wp2_with fail
      refine ret_json Tryd.results29 rfl HI3.out.res fun W ho hj => ?_
      exact JPost.yes HE.out ⟨rfl, HI3.out.ps.only ho (by omega), HI3.out.but.only ho (Nat.le_refl _)⟩ (HI3.out.rep_end.only ho hord.out.2.1 (by omega)) ((HI3.out.own_end _ _ _ _).only ho hord.out.2.1 (by omega))
    · have HS2 : Hid (innerS s (lv + 1) i true = if !first && bt s k != 44 then .error 300 else memS s (valS s lv) true f (if first then k else whS s (k + 1)) keys l) := by show _ = _; rw [HS.out, if_neg (by have := HC.out; omega)]
      have hendb : (C != 125) = true := bne_iff_ne.2 hend
      cases first with
      | true =>
        obtain ⟨k1, hk1e⟩ : ∃ k1, k1 = k := ⟨_, rfl⟩
        subst hk1e
        have HS1 : Hid (innerS s (lv + 1) i true = memS s (valS s lv) true f k1 keys l) := HS2.out
        have HI1 := HI
        have hk1 := hk
        have hlt : l.length ≤ k1 := HI1.out.lenL
        have b0 := HI1.out.out.cell.1
        simp only [if_true, Bool.false_eq_true, if_false] at b0
        go_wp2_with fail
        refine (text_any g s k1 _ hs2 hk1 HI1.out.ps).mono ?_
        intro e w3 hx
        have HXT := Lib.hid hx
        clear hx
        cases ht : textS s k1 with
        | none =>
          have hq := HXT.out.at_none ht
          have HE : Hid (innerS s (lv + 1) i true = .error 300) := by show _ = _; rw [HS1.out]; unfold memS; rw [ht]; rfl
          obtain ⟨rfl, hb3⟩ := hq
          exact ⟨rfl, JPost.no HE.out ⟨rfl, HI1.out.but.trans hb3⟩⟩
        | some p =>
          obtain ⟨key, i2⟩ := p
          obtain ⟨rfl, hp3, hb3⟩ := HXT.out.at_some ht
          obtain ⟨hin1, hin2, hin3⟩ := textS_in ht
          have HSK : Hid (innerS s (lv + 1) i true = if memB key keys then .error 300 else if bt s (whS s i2) = 58 then (match valS s lv (whS s (whS s i2 + 1)) with | .error e => .error e | .ok (j, i3) => seqS s (valS s lv) true f false (whS s i3) (keys ++ [key]) (l ++ [j])) else .error 300) := by show _ = _; rw [HS1.out]; unfold memS; rw [ht]; rfl
          have hkk : keys.length ≤ k1 := HI1.out.lenK
          have HI3 := Lib.hid (HI1.out.next hord.out hp3 hb3 (by omega) hin2)
          have hkey : key.size ≤ maxLen := by unfold maxLen; omega
          clear hp3 hb3 ht HXT
          have hlook := HI3.out.seen.look key hkey
          cases hm : memB key keys with
          | true =>
            have HE : Hid (innerS s (lv + 1) i true = .error 300) := by show _ = _; rw [HSK.out, hm]; rfl
            rw [hm] at hlook
            clear hm
            go_wp2_with fail
            refine (bad_any _).mono ?_
            rintro e w6 ⟨rfl, rfl⟩
            exact ⟨rfl, JPost.no HE.out ⟨rfl, HI3.out.but⟩⟩
          | false =>
            have HSL : Hid (innerS s (lv + 1) i true = if bt s (whS s i2) = 58 then (match valS s lv (whS s (whS s i2 + 1)) with | .error e => .error e | .ok (j, i3) => seqS s (valS s lv) true f false (whS s i3) (keys ++ [key]) (l ++ [j])) else .error 300) := by show _ = _; rw [HSK.out, hm]; rfl
            rw [hm] at hlook
            clear hm
            go_wp2_with (at_mapUpdate; refine wpList_mapUpdate_own _ rfl _ _ _ 78 rfl 9 4 keyed Tryd.underlying78 (plainElem (H := Unit) Tryd.prog 4) (w.heap.size + 1 + 1) keys.length (seenD keys) rfl HI3.out.seen (by unfold maxLen; omega) _ _ (klit key) rfl rfl (key_of hkey) (.lit (.bool true)) [] (plainElem_bool Tryd.underlying4 true) ?_)
            intro w4 hown4 hgr4
            have hseen4 : Seen w4 (w.heap.size + 1 + 1) (keys ++ [key]) := by unfold Seen; rw [seen_snoc, List.length_append]; exact hown4
            have HS4 := Lib.hid hseen4
            have HG4 := Lib.hid hgr4
            have hJ4 : JB w4 (w.heap.size + 1) (.int .i64 5) (.bool false) (.int .i64 0) (.string ⟨#[]⟩) Lv Kv := (hgr4.block _ HI3.out.out.lt (fun e => by injection e with e; omega)).trans HI3.out.out
            have q5 := hJ4.cell.2.2.2.2.2
            have HJ4 := Lib.hid hJ4
            have HK4 : Hid (w4.ownsRow w1.heap.size 9 1 Kv keys.length (keys.map Value.string)) := World.ownsRow.kept HI3.out.ownK hgr4 (.inr (fun e => by have := (World.ownsRow.lt HI3.out.ownK _ e).1; have := hord.out; omega))
            have hsz4 : w1.heap.size ≤ w4.heap.size := by have := hgr4.size; have := HI3.out.ble; omega
            clear hown4 hgr4 hseen4 hlook hJ4
            go_wp2_with (at_builtin; refine wpList_append_lies _ rfl _ _ 23 rfl w1.heap.size 9 i1 _ 1 16 Tryd.underlying23 hinfo1 hy0 hy1 hy2 rfl (by omega) Kv keys.length _ rfl (by exact World.ownsRow.alloc HK4.out _) ⟨w4.heap.size, 0, none⟩ 1 1 [.string key] rfl rfl (World.news_of_block (cs := #[.string key]) (t := 9) (fr := (0, 0)) (heap_alloc_new w4 _)) (by simp [Value.oneCell']) (by omega) (by unfold maxLen; omega) (by omega) (by simp; omega) (w4.heap.size + 1) (by simp) ?_)
            intro gg cap w5 hown5 hgr5 hat5 hlt5
            have J5 := HJ4.out.grown2 hgr5 (fun e => by have := (World.ownsRow.lt HK4.out _ e.symm).1; have := hord.out; omega)
            have q6 := J5.cell.2.2.2.2.2
            have f6 := J5.frozen 5
            have HI5 := Lib.hid (HI3.out.addKey (t := key) (wa := w4.alloc (.cells #[.string key] 9)) hord.out (by omega) (by omega) (HS4.out.kept (World.grownBy_alloc w4 _ none) (by simp)) ⟨HG4.out.os, HG4.out.tape, HG4.out.output, by have := HG4.out.size; simp; omega, fun z hz hne => (Below.heap_alloc w4 _ z (by have := HG4.out.size; omega)).trans (HG4.out.block z hz hne)⟩ hown5 hgr5 (fun j hj => by rcases hat5 with h | h <;> injection hj with hj <;> simp only at hj; exact .inl (by rw [← hj]; exact h); exact .inr (by simp; omega)) (by omega))
            have hwk2 := whS_le s i2 hin2
            clear hown5 hgr5 hat5 hlt5 J5 q5 HI3 HS4 HG4 HJ4 HK4 HI1
            obtain ⟨Kv2, hKv2⟩ : ∃ z, z = Value.slice (some ⟨gg, 0, none⟩) (keys.length + 1) cap := ⟨_, rfl⟩
            rw [← hKv2] at HI5
            have HKV := Lib.hid hKv2
            clear hKv2
            go_wp2_with fail
            rw [← HKV.out]
            refine (white_any g s i2 _ hs2 hin2 HI5.out.ps).mono ?_
            rintro e w7 ⟨rfl, hp7, hb7⟩
            have HI7 := Lib.hid (HI5.out.next hord.out hp7 hb7 hwk2.1 hwk2.2)
            clear hp7 hb7 HI5 q6 f6
            by_cases hcol : bt s (whS s i2) = 58
            · have HSM : Hid (innerS s (lv + 1) i true = match valS s lv (whS s (whS s i2 + 1)) with | .error e => .error e | .ok (j, i3) => seqS s (valS s lv) true f false (whS s i3) (keys ++ [key]) (l ++ [j])) := by show _ = _; rw [HSL.out, if_pos hcol]
              have hcl := bt_in (s := s) (i := whS s i2) (by omega)
              have HC58 := Lib.hid hcol
              clear hcol
              go_wp2_with fail
              refine (take_ok g s (whS s i2) _ _ hs2 HI7.out.ps hcl (by rw [HC58.out]; rfl)).mono ?_
              rintro e w8 ⟨rfl, hp8, hb8⟩
              have HI8 := Lib.hid (HI7.out.next hord.out hp8 hb8 (by omega) hcl)
              have hwk4 := whS_le s (whS s i2 + 1) hcl
              clear hp8 hb8 HI7
              go_wp2_with fail
              refine (white_any g s (whS s i2 + 1) _ hs2 hcl HI8.out.ps).mono ?_
              rintro e w9 ⟨rfl, hp9, hb9⟩
              have HI9 := Lib.hid (HI8.out.next hord.out hp9 hb9 hwk4.1 hwk4.2)
              clear hp9 hb9 HI8
              obtain ⟨k3, hk3⟩ : ∃ z, z = whS s (whS s i2 + 1) := ⟨_, rfl⟩
              rw [← hk3] at HI9 HSM
              have HM := HSM
              have hk1' : k3 ≤ s.size := by omega
              have hlt' : l.length ≤ k3 := HI9.out.lenL
              have hkk3 : k1 < k3 := by omega
              clear hk3 hwk4 HSM
              have b4 := HI9.out.out.cell.2.2.2.2.1
              have b0 := HI9.out.out.cell.1
              simp only [if_true, Bool.false_eq_true, if_false] at b0
              cases hval : valS s lv k3 with
              | error c =>
                have HE : Hid (innerS s (lv + 1) i true = .error c) := by show _ = _; rw [HM.out, hval]
                have HVAL := Lib.hid hval
                clear hval
                go_wp2_with fail
                go_region_dies
                all_goals
                  refine (HV.out g s k3 _ _ hs hk1' (by exact HI9.out.ps) (by have := HD.out; omega)).mono ?_
                  intro e w4 hx
                  obtain ⟨rfl, hb4⟩ := hx.at_error HVAL.out
                  exact ⟨rfl, JPost.no HE.out ⟨rfl, (HI9.out.but.drew).trans hb4⟩⟩
              | ok p =>
                obtain ⟨x, i3⟩ := p
                have hin := valS_in s lv k3 x i3 hk1' hval
                have HVAL := Lib.hid hval
                have HS3 : Hid (innerS s (lv + 1) i true = seqS s (valS s lv) true f false (whS s i3) (keys ++ [key]) (l ++ [x])) := by show _ = _; rw [HM.out, hval]
                clear hval
                go_wp2_with fail
                go_region_law (first | (refine step_append_lies _ (by rfl) _ _ 22 (by rfl) w1.heap.size 25 i0 _ 6 88 Tryd.underlying22 hinfo hz0 hz1 hz2 rfl (by omega) Lv l.length css.flatten (by rfl) (by exact World.ownsRow.alloc HI4.out.ownL _) ⟨w4.heap.size, 0, none⟩ 1 1 [.int .i64 z1, .bool z2, .int .i64 z3, .string z4, .slice A1 l1 m1, .slice A2 l2 m2] (by rfl) (by rfl) (World.news_of_block (cs := #[.int .i64 z1, .bool z2, .int .i64 z3, .string z4, .slice A1 l1 m1, .slice A2 l2 m2]) (t := 25) (fr := (0, 0)) (heap_alloc_new w4 _)) (by simp [Value.oneCell']) (by omega) (by unfold maxLen; omega) (by omega) (by have := HI4.out.ble; simp; omega) (w4.heap.size + 1) (by simp) ?_; intro gg cap w6 hown6 hgr6 hat hlt2; have J6 := HI4.out.out.grown2 hgr6 (HI4.out.neL hord.out.2.2.2.1); have q6 := J6.cell.2.2.2.2.1; have f6 := J6.frozen 4; clear J6) | (go_simp; go_at_call 16; refine (HV.out g s k3 _ _ hs hk1' (by exact HI9.out.ps) (by have := HD.out; omega)).mono ?_; intro e w4 hx; obtain ⟨a, b, c, d, Lx, Kx, ⟨rfl, hp4, hb4⟩, hr4, hw4⟩ := hx.at_ok HVAL.out; obtain ⟨z1, z2, z3, z4, A1, l1, m1, A2, l2, m2, rfl, rfl, rfl, rfl, rfl, rfl⟩ := rep_form hr4; have HI4 := Lib.hid (HI9.out.drew.next hord.out hp4 hb4 (by omega) hin.2); have HR4 := Lib.hid hr4; have q4 := HI4.out.out.cell.2.2.2.2.1; have l4 := HI4.out.out.lt; clear hx hp4 hb4 hr4 hw4))
                all_goals
                  have hw9 : Hid (w9.heap.size = w9.drew.heap.size) := rfl
                  have HX : Hid (JRep w4 (fun b => w1.heap.size ≤ b ∧ Lv.ownBlock ≠ some b ∧ Kv2.ownBlock ≠ some b) [.int .i64 z1, .bool z2, .int .i64 z3, .string z4, .slice A1 l1 m1, .slice A2 l2 m2] x) := HR4.out.mono fun b hb1 _ => by
                    have e1 := HI9.out.ble
                    have e2 := hw9.out
                    refine ⟨⟨by omega, fun e => ?_, fun e => ?_⟩, rfl⟩
                    · have := (World.ownsRow.lt HI9.out.ownL b e).2; omega
                    · have := (World.ownsRow.lt HI9.out.ownK b e).2; omega
                  have HI6 := Lib.hid (HI4.out.addMember hord.out (by omega) (by omega) ((Below.refl _ _).alloc (Nat.le_refl _) _) HX.out rfl hown6 hgr6 (fun j hj => by rcases hat with h | h <;> injection hj with hj <;> simp only at hj; exact .inl (by rw [← hj]; exact h); exact .inr (by omega)) (by omega))
                  have hwk3 := whS_le s i3 hin.2
                  clear hat hown6 hgr6 q4 q6 f6 HI4 HX b4 b0
                  go_wp2_with fail
                  refine (white_any g s i3 _ hs2 hin.2 HI6.out.ps).mono ?_
                  rintro e w8 ⟨rfl, hp8, hb8⟩
                  have HI8 := Lib.hid (HI6.out.next hord.out hp8 hb8 (by omega) hwk3.2)
                  clear hp8 hb8 HI6
                  go_wp2_with fail
                  go_roundg (s.size + 1 - whS s i3)
                  case measure => have := HN.out; omega
                  case rel => exact ⟨whS s i3, _, _, _, _, _, f, false, rfl, hwk3.2, by omega, rfl, HI8.out, HS3.out⟩
            · have HE : Hid (innerS s (lv + 1) i true = .error 300) := by show _ = _; rw [HSL.out, if_neg hcol]
              have HC58 := Lib.hid hcol
              clear hcol
              go_wp2_with fail
              refine (take_err g s (whS s i2) _ _ hs2 HI7.out.ps (by intro h; exact HC58.out (by omega))).mono ?_
              rintro e w8 ⟨rfl, hb8⟩
              exact ⟨rfl, JPost.no HE.out ⟨rfl, HI7.out.but.trans hb8⟩⟩
      | false =>
        by_cases hcm : C = 44
        · obtain ⟨k1, hk1e⟩ : ∃ k1, k1 = whS s (k + 1) := ⟨_, rfl⟩
          have hkl : k + 1 ≤ s.size := bt_in (s := s) (i := k) (by have := HC.out; omega)
          have hwk1 := whS_le s (k + 1) hkl
          have HS1 : Hid (innerS s (lv + 1) i true = memS s (valS s lv) true f k1 keys l) := by show _ = _; rw [HS2.out, hk1e, if_neg (by have := HC.out; simp; omega)]; rfl
          have hk1 : k1 ≤ s.size := by omega
          have hkk1 : k < k1 := by omega
          have HK1 := Lib.hid hk1e
          clear hk1e hwk1
          go_wp2_with fail
          refine (take_ok g s k _ _ hs2 HI.out.ps (by omega) (by have := HC.out; omega)).mono ?_
          rintro e w9 ⟨rfl, hp9, hb9⟩
          have HI9 := Lib.hid (HI.out.next hord.out hp9 hb9 (by omega) hkl)
          clear hp9 hb9
          go_wp2_with fail
          refine (white_any g s (k + 1) _ hs2 hkl HI9.out.ps).mono ?_
          rintro e w10 ⟨rfl, hp10, hb10⟩
          rw [← HK1.out] at hp10
          have HI1 := Lib.hid (HI9.out.next hord.out hp10 hb10 (by have := HK1.out; omega) hk1)
          have hlt : l.length ≤ k1 := HI1.out.lenL
          clear hp10 hb10 HI HI9
          obtain ⟨w2, hw2e⟩ : ∃ z : World, z = w10 := ⟨_, rfl⟩
          subst hw2e
          have b0 := HI1.out.out.cell.1
          simp only [if_true, Bool.false_eq_true, if_false] at b0
          go_wp2_with fail
          refine (text_any g s k1 _ hs2 hk1 HI1.out.ps).mono ?_
          intro e w3 hx
          have HXT := Lib.hid hx
          clear hx
          cases ht : textS s k1 with
          | none =>
            have hq := HXT.out.at_none ht
            have HE : Hid (innerS s (lv + 1) i true = .error 300) := by show _ = _; rw [HS1.out]; unfold memS; rw [ht]; rfl
            obtain ⟨rfl, hb3⟩ := hq
            exact ⟨rfl, JPost.no HE.out ⟨rfl, HI1.out.but.trans hb3⟩⟩
          | some p =>
            obtain ⟨key, i2⟩ := p
            obtain ⟨rfl, hp3, hb3⟩ := HXT.out.at_some ht
            obtain ⟨hin1, hin2, hin3⟩ := textS_in ht
            have HSK : Hid (innerS s (lv + 1) i true = if memB key keys then .error 300 else if bt s (whS s i2) = 58 then (match valS s lv (whS s (whS s i2 + 1)) with | .error e => .error e | .ok (j, i3) => seqS s (valS s lv) true f false (whS s i3) (keys ++ [key]) (l ++ [j])) else .error 300) := by show _ = _; rw [HS1.out]; unfold memS; rw [ht]; rfl
            have hkk : keys.length ≤ k1 := HI1.out.lenK
            have HI3 := Lib.hid (HI1.out.next hord.out hp3 hb3 (by omega) hin2)
            have hkey : key.size ≤ maxLen := by unfold maxLen; omega
            clear hp3 hb3 ht HXT
            have hlook := HI3.out.seen.look key hkey
            cases hm : memB key keys with
            | true =>
              have HE : Hid (innerS s (lv + 1) i true = .error 300) := by show _ = _; rw [HSK.out, hm]; rfl
              rw [hm] at hlook
              clear hm
              go_wp2_with fail
              refine (bad_any _).mono ?_
              rintro e w6 ⟨rfl, rfl⟩
              exact ⟨rfl, JPost.no HE.out ⟨rfl, HI3.out.but⟩⟩
            | false =>
              have HSL : Hid (innerS s (lv + 1) i true = if bt s (whS s i2) = 58 then (match valS s lv (whS s (whS s i2 + 1)) with | .error e => .error e | .ok (j, i3) => seqS s (valS s lv) true f false (whS s i3) (keys ++ [key]) (l ++ [j])) else .error 300) := by show _ = _; rw [HSK.out, hm]; rfl
              rw [hm] at hlook
              clear hm
              go_wp2_with (at_mapUpdate; refine wpList_mapUpdate_own _ rfl _ _ _ 78 rfl 9 4 keyed Tryd.underlying78 (plainElem (H := Unit) Tryd.prog 4) (w.heap.size + 1 + 1) keys.length (seenD keys) rfl HI3.out.seen (by unfold maxLen; omega) _ _ (klit key) rfl rfl (key_of hkey) (.lit (.bool true)) [] (plainElem_bool Tryd.underlying4 true) ?_)
              intro w4 hown4 hgr4
              have hseen4 : Seen w4 (w.heap.size + 1 + 1) (keys ++ [key]) := by unfold Seen; rw [seen_snoc, List.length_append]; exact hown4
              have HS4 := Lib.hid hseen4
              have HG4 := Lib.hid hgr4
              have hJ4 : JB w4 (w.heap.size + 1) (.int .i64 5) (.bool false) (.int .i64 0) (.string ⟨#[]⟩) Lv Kv := (hgr4.block _ HI3.out.out.lt (fun e => by injection e with e; omega)).trans HI3.out.out
              have q5 := hJ4.cell.2.2.2.2.2
              have HJ4 := Lib.hid hJ4
              have HK4 : Hid (w4.ownsRow w1.heap.size 9 1 Kv keys.length (keys.map Value.string)) := World.ownsRow.kept HI3.out.ownK hgr4 (.inr (fun e => by have := (World.ownsRow.lt HI3.out.ownK _ e).1; have := hord.out; omega))
              have hsz4 : w1.heap.size ≤ w4.heap.size := by have := hgr4.size; have := HI3.out.ble; omega
              clear hown4 hgr4 hseen4 hlook hJ4
              go_wp2_with (at_builtin; refine wpList_append_lies _ rfl _ _ 23 rfl w1.heap.size 9 i1 _ 1 16 Tryd.underlying23 hinfo1 hy0 hy1 hy2 rfl (by omega) Kv keys.length _ rfl (by exact World.ownsRow.alloc HK4.out _) ⟨w4.heap.size, 0, none⟩ 1 1 [.string key] rfl rfl (World.news_of_block (cs := #[.string key]) (t := 9) (fr := (0, 0)) (heap_alloc_new w4 _)) (by simp [Value.oneCell']) (by omega) (by unfold maxLen; omega) (by omega) (by simp; omega) (w4.heap.size + 1) (by simp) ?_)
              intro gg cap w5 hown5 hgr5 hat5 hlt5
              have J5 := HJ4.out.grown2 hgr5 (fun e => by have := (World.ownsRow.lt HK4.out _ e.symm).1; have := hord.out; omega)
              have q6 := J5.cell.2.2.2.2.2
              have f6 := J5.frozen 5
              have HI5 := Lib.hid (HI3.out.addKey (t := key) (wa := w4.alloc (.cells #[.string key] 9)) hord.out (by omega) (by omega) (HS4.out.kept (World.grownBy_alloc w4 _ none) (by simp)) ⟨HG4.out.os, HG4.out.tape, HG4.out.output, by have := HG4.out.size; simp; omega, fun z hz hne => (Below.heap_alloc w4 _ z (by have := HG4.out.size; omega)).trans (HG4.out.block z hz hne)⟩ hown5 hgr5 (fun j hj => by rcases hat5 with h | h <;> injection hj with hj <;> simp only at hj; exact .inl (by rw [← hj]; exact h); exact .inr (by simp; omega)) (by omega))
              have hwk2 := whS_le s i2 hin2
              clear hown5 hgr5 hat5 hlt5 J5 q5 HI3 HS4 HG4 HJ4 HK4 HI1
              obtain ⟨Kv2, hKv2⟩ : ∃ z, z = Value.slice (some ⟨gg, 0, none⟩) (keys.length + 1) cap := ⟨_, rfl⟩
              rw [← hKv2] at HI5
              have HKV := Lib.hid hKv2
              clear hKv2
              go_wp2_with fail
              rw [← HKV.out]
              refine (white_any g s i2 _ hs2 hin2 HI5.out.ps).mono ?_
              rintro e w7 ⟨rfl, hp7, hb7⟩
              have HI7 := Lib.hid (HI5.out.next hord.out hp7 hb7 hwk2.1 hwk2.2)
              clear hp7 hb7 HI5 q6 f6
              by_cases hcol : bt s (whS s i2) = 58
              · have HSM : Hid (innerS s (lv + 1) i true = match valS s lv (whS s (whS s i2 + 1)) with | .error e => .error e | .ok (j, i3) => seqS s (valS s lv) true f false (whS s i3) (keys ++ [key]) (l ++ [j])) := by show _ = _; rw [HSL.out, if_pos hcol]
                have hcl := bt_in (s := s) (i := whS s i2) (by omega)
                have HC58 := Lib.hid hcol
                clear hcol
                go_wp2_with fail
                refine (take_ok g s (whS s i2) _ _ hs2 HI7.out.ps hcl (by rw [HC58.out]; rfl)).mono ?_
                rintro e w8 ⟨rfl, hp8, hb8⟩
                have HI8 := Lib.hid (HI7.out.next hord.out hp8 hb8 (by omega) hcl)
                have hwk4 := whS_le s (whS s i2 + 1) hcl
                clear hp8 hb8 HI7
                go_wp2_with fail
                refine (white_any g s (whS s i2 + 1) _ hs2 hcl HI8.out.ps).mono ?_
                rintro e w9 ⟨rfl, hp9, hb9⟩
                have HI9 := Lib.hid (HI8.out.next hord.out hp9 hb9 hwk4.1 hwk4.2)
                clear hp9 hb9 HI8
                obtain ⟨k3, hk3⟩ : ∃ z, z = whS s (whS s i2 + 1) := ⟨_, rfl⟩
                rw [← hk3] at HI9 HSM
                have HM := HSM
                have hk1' : k3 ≤ s.size := by omega
                have hlt' : l.length ≤ k3 := HI9.out.lenL
                have hkk3 : k1 < k3 := by omega
                clear hk3 hwk4 HSM
                have b4 := HI9.out.out.cell.2.2.2.2.1
                have b0 := HI9.out.out.cell.1
                simp only [if_true, Bool.false_eq_true, if_false] at b0
                cases hval : valS s lv k3 with
                | error c =>
                  have HE : Hid (innerS s (lv + 1) i true = .error c) := by show _ = _; rw [HM.out, hval]
                  have HVAL := Lib.hid hval
                  clear hval
                  go_wp2_with fail
                  go_region_dies
                  all_goals
                    refine (HV.out g s k3 _ _ hs hk1' (by exact HI9.out.ps) (by have := HD.out; omega)).mono ?_
                    intro e w4 hx
                    obtain ⟨rfl, hb4⟩ := hx.at_error HVAL.out
                    exact ⟨rfl, JPost.no HE.out ⟨rfl, (HI9.out.but.drew).trans hb4⟩⟩
                | ok p =>
                  obtain ⟨x, i3⟩ := p
                  have hin := valS_in s lv k3 x i3 hk1' hval
                  have HVAL := Lib.hid hval
                  have HS3 : Hid (innerS s (lv + 1) i true = seqS s (valS s lv) true f false (whS s i3) (keys ++ [key]) (l ++ [x])) := by show _ = _; rw [HM.out, hval]
                  clear hval
                  go_wp2_with fail
                  go_region_law (first | (refine step_append_lies _ (by rfl) _ _ 22 (by rfl) w1.heap.size 25 i0 _ 6 88 Tryd.underlying22 hinfo hz0 hz1 hz2 rfl (by omega) Lv l.length css.flatten (by rfl) (by exact World.ownsRow.alloc HI4.out.ownL _) ⟨w4.heap.size, 0, none⟩ 1 1 [.int .i64 z1, .bool z2, .int .i64 z3, .string z4, .slice A1 l1 m1, .slice A2 l2 m2] (by rfl) (by rfl) (World.news_of_block (cs := #[.int .i64 z1, .bool z2, .int .i64 z3, .string z4, .slice A1 l1 m1, .slice A2 l2 m2]) (t := 25) (fr := (0, 0)) (heap_alloc_new w4 _)) (by simp [Value.oneCell']) (by omega) (by unfold maxLen; omega) (by omega) (by have := HI4.out.ble; simp; omega) (w4.heap.size + 1) (by simp) ?_; intro gg cap w6 hown6 hgr6 hat hlt2; have J6 := HI4.out.out.grown2 hgr6 (HI4.out.neL hord.out.2.2.2.1); have q6 := J6.cell.2.2.2.2.1; have f6 := J6.frozen 4; clear J6) | (go_simp; go_at_call 16; refine (HV.out g s k3 _ _ hs hk1' (by exact HI9.out.ps) (by have := HD.out; omega)).mono ?_; intro e w4 hx; obtain ⟨a, b, c, d, Lx, Kx, ⟨rfl, hp4, hb4⟩, hr4, hw4⟩ := hx.at_ok HVAL.out; obtain ⟨z1, z2, z3, z4, A1, l1, m1, A2, l2, m2, rfl, rfl, rfl, rfl, rfl, rfl⟩ := rep_form hr4; have HI4 := Lib.hid (HI9.out.drew.next hord.out hp4 hb4 (by omega) hin.2); have HR4 := Lib.hid hr4; have q4 := HI4.out.out.cell.2.2.2.2.1; have l4 := HI4.out.out.lt; clear hx hp4 hb4 hr4 hw4))
                  all_goals
                    have hw9 : Hid (w9.heap.size = w9.drew.heap.size) := rfl
                    have HX : Hid (JRep w4 (fun b => w1.heap.size ≤ b ∧ Lv.ownBlock ≠ some b ∧ Kv2.ownBlock ≠ some b) [.int .i64 z1, .bool z2, .int .i64 z3, .string z4, .slice A1 l1 m1, .slice A2 l2 m2] x) := HR4.out.mono fun b hb1 _ => by
                      have e1 := HI9.out.ble
                      have e2 := hw9.out
                      refine ⟨⟨by omega, fun e => ?_, fun e => ?_⟩, rfl⟩
                      · have := (World.ownsRow.lt HI9.out.ownL b e).2; omega
                      · have := (World.ownsRow.lt HI9.out.ownK b e).2; omega
                    have HI6 := Lib.hid (HI4.out.addMember hord.out (by omega) (by omega) ((Below.refl _ _).alloc (Nat.le_refl _) _) HX.out rfl hown6 hgr6 (fun j hj => by rcases hat with h | h <;> injection hj with hj <;> simp only at hj; exact .inl (by rw [← hj]; exact h); exact .inr (by omega)) (by omega))
                    have hwk3 := whS_le s i3 hin.2
                    clear hat hown6 hgr6 q4 q6 f6 HI4 HX b4 b0
                    go_wp2_with fail
                    refine (white_any g s i3 _ hs2 hin.2 HI6.out.ps).mono ?_
                    rintro e w8 ⟨rfl, hp8, hb8⟩
                    have HI8 := Lib.hid (HI6.out.next hord.out hp8 hb8 (by omega) hwk3.2)
                    clear hp8 hb8 HI6
                    go_wp2_with fail
                    go_roundg (s.size + 1 - whS s i3)
                    case measure => have := HN.out; omega
                    case rel => exact ⟨whS s i3, _, _, _, _, _, f, false, rfl, hwk3.2, by omega, rfl, HI8.out, HS3.out⟩
              · have HE : Hid (innerS s (lv + 1) i true = .error 300) := by show _ = _; rw [HSL.out, if_neg hcol]
                have HC58 := Lib.hid hcol
                clear hcol
                go_wp2_with fail
                refine (take_err g s (whS s i2) _ _ hs2 HI7.out.ps (by intro h; exact HC58.out (by omega))).mono ?_
                rintro e w8 ⟨rfl, hb8⟩
                exact ⟨rfl, JPost.no HE.out ⟨rfl, HI7.out.but.trans hb8⟩⟩
        · have HE : Hid (innerS s (lv + 1) i true = .error 300) := by show _ = _; rw [HS2.out, if_pos (by have := HC.out; simp; omega)]
          go_wp2_with fail
          refine (take_err g s k _ _ hs2 HI.out.ps (by have := HC.out; omega)).mono ?_
          rintro e w9 ⟨rfl, hb9⟩
          exact ⟨rfl, JPost.no HE.out ⟨rfl, HI.out.but.trans hb9⟩⟩

theorem inner_all : ∀ lv : Nat, lv ≤ 16 → InnerC lv
  | 0, _ => inner_zero
  | lv + 1, h => by
    have ih := inner_all lv (by omega)
    have hv := value_of lv (by omega) ih
    intro g s i obj C D w hs hi hp hC hbt hD
    cases obj with
    | false => simp only [Bool.false_eq_true, if_false] at hC; subst hC; exact inner_succ_list lv (by omega) hv g s i D w hs hi hp hD
    | true => simp only [if_true] at hC; subst hC; exact inner_succ_obj lv (by omega) hv g s i D w hs hi hp hD
/-- VALUE at the outermost level -/
theorem value_all : ValueC 16 := value_of 16 (by omega) (inner_all 16 (by omega))

end Go.Proofs.YtbhnfehpbbibbaaDoor
