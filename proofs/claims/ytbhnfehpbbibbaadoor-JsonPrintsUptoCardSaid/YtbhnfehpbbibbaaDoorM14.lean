/- The reference's printer: add and fail, for every state. The reference's Quote, for every text. -/
import Derived.Test.YtbhnfehpbbibbaaDoorM10
import Derived.Test.YtbhnfehpbbibbaaDoorM11
import Derived.Deep.AppendLies
import Derived.Deep.RegionLaw
import Derived.StillTailTactics

namespace Go.Proofs.YtbhnfehpbbibbaaDoor
open Go.RowKit

/-- what a state of the reference's printer stands for -/
def nS (o : List UInt8) (c : Int) : Except Int (List UInt8) := if c = 0 then (if 65536 < o.length then .error 302 else .ok o) else .error c
theorem nS_err {o : List UInt8} {c : Int} (h : c ≠ 0) : nS o c = .error c := if_neg h
theorem nS_long {o : List UInt8} (h : 65536 < o.length) : nS o 0 = .error 302 := by unfold nS; rw [if_pos rfl, if_pos h]
theorem nS_ok {o : List UInt8} (h : ¬ 65536 < o.length) : nS o 0 = .ok o := by unfold nS; rw [if_pos rfl, if_neg h]

/-- what the reference's printer's functions come to -/
structure RPost (g : Nat) (r : Except Int (List UInt8)) (w : World) (e : Ending) (w' : World) : Prop where
  val : e = .returned (.tuple #[])
  fr : PFr g w w'
  st : ∃ v o c, RW w' g v o c ∧ nS o c = r ∧ o.length ≤ 268435456

/-- add, on a state -/
def raddF (o : List UInt8) (c : Int) (t : List UInt8) : List UInt8 × Int := if c = 0 then (if 65536 < o.length then (o, 302) else (o ++ t, 0)) else (o, c)
theorem raddF_nS (o : List UInt8) (c : Int) (t : List UInt8) : nS (raddF o c t).1 (raddF o c t).2 = thenP (nS o c) (addT t) := by
  unfold raddF
  by_cases hc : c = 0
  · subst hc
    rw [if_pos rfl]
    by_cases hl : 65536 < o.length
    · rw [if_pos hl, nS_long hl]; exact nS_err (show (302 : Int) ≠ 0 by decide)
    · rw [if_neg hl, nS_ok hl]
      show nS _ 0 = outP o (addT t)
      unfold nS outP addT
      rw [if_pos rfl, List.length_append]
  · rw [if_neg hc]
    show nS o c = _
    rw [nS_err hc]; rfl

set_option maxRecDepth 100000 in
set_option maxHeartbeats 1000000 in
theorem radd_exact (g : Nat) (v : Value) (o : List UInt8) (c : Int) (s : ByteArray) (w : World) (h : RW w g v o c) (ho : o.length ≤ 268435456) (hs : s.size ≤ 201326602) :
    Calls Tryd.prog 24 #[.pointer (some ⟨g, 0, none⟩), .string s] w fun e w' => e = .returned (.tuple #[]) ∧ PFr g w w' ∧ ∃ v', RW w' g v' (raddF o c s.data.toList).1 (raddF o c s.data.toList).2 := by
  obtain ⟨i0, hinfo, hz0, hz1, hz2⟩ := info_parts uinfo
  have HP := Lib.hid h
  have hgl := h.lt
  obtain ⟨A, cp, rfl⟩ := own_form h.2
  have k0 := h.c0
  have k1 := h.c1
  have f0 := h.f 0
  have f1 := h.f 1
  clear h
  by_cases hc : c = 0
  case neg =>
    have HE : Hid (raddF o c s.data.toList = (o, c)) := if_neg hc
    have hcb : (c == 0) = false := beq_eq_false_iff_ne.2 hc
    clear hc
    go_enter Tryd.func24, Tryd.ntmps24
    go_wp2_with fail
    go_end0
    exact ⟨rfl, .refl _ _, _, by rw [HE.out]; exact HP.out⟩
  case pos =>
    subst hc
    by_cases hlong : 65536 < o.length
    · have HE : Hid (raddF o 0 s.data.toList = (o, 302)) := by show _ = _; unfold raddF; rw [if_pos rfl, if_pos hlong]
      go_enter Tryd.func24, Tryd.ntmps24
      have H2 : Hid (RW (w.setCell ⟨g, 1, none⟩ (.int .i64 302)) g (.slice A o.length cp) o 302) := HP.out.setCode 302
      have k2 := H2.out.c1
      go_wp2_with fail
      go_end0
      exact ⟨rfl, (PFr.refl g w).set 1 _, _, by rw [HE.out]; exact H2.out⟩
    · have HE : Hid (raddF o 0 s.data.toList = (o ++ s.data.toList, 0)) := by show _ = _; unfold raddF; rw [if_pos rfl, if_neg hlong]
      go_enter Tryd.func24, Tryd.ntmps24
      go_wp2_with (at_builtin; refine Lib.wpList_append_own_string _ rfl _ _ 53 9 rfl (g + 1) 5 i0 Tryd.underlying53 Tryd.underlying9 hinfo hz0 hz1 hz2 _ o.length _ rfl HP.out.2 s rfl (by unfold maxLen; omega) (by omega) (by omega) ?_)
      intro v5 w5 hown hgr _
      have hB : BRow w5 (g + 1) v5 (o ++ s.data.toList) := BRow.app hown rfl
      have HW : Hid (RW (w5.setCell ⟨g, 0, none⟩ v5) g v5 (o ++ s.data.toList) 0 ∧ PFr g w (w5.setCell ⟨g, 0, none⟩ v5)) := ⟨HP.out.stored hgr hB, ((PFr.refl g w).grown HP.out.2 hgr).set 0 v5⟩
      have J5 : w5.heap[g]? = some (.cells #[.slice A o.length cp, .int .i64 0] 60 (0, 0)) := (hgr.block g hgl (own_ne HP.out.2 (Nat.lt_succ_self g))).trans HP.out.1
      have f5 : w5.frozen? ⟨g, 0, none⟩ = false := by simp [World.frozen?, J5]
      have k5 : w5.cell? ⟨g, 0, none⟩ = some (.slice A o.length cp) := by simp [World.cell?, J5]
      obtain ⟨A5, c5, rfl⟩ := own_form hown
      clear hown hgr hB J5 k0 f0 k1 f1
      go_wp2_with fail
      go_end0
      exact ⟨rfl, HW.out.2, _, by rw [HE.out]; exact HW.out.1⟩
theorem radd_any (g : Nat) (v : Value) (o : List UInt8) (c : Int) (s : ByteArray) (w : World) (h : RW w g v o c) (ho : o.length ≤ 268435456) (hs : s.size ≤ 201326602) :
    Calls Tryd.prog 24 #[.pointer (some ⟨g, 0, none⟩), .string s] w (RPost g (thenP (nS o c) (addT s.data.toList)) w) := by
  refine (radd_exact g v o c s w h ho hs).mono ?_
  rintro e w' ⟨rfl, hf, v', hp⟩
  refine ⟨rfl, hf, v', _, _, hp, raddF_nS _ _ _, ?_⟩
  have hsl : s.data.toList.length = s.size := rfl
  unfold raddF
  split
  · split
    · exact ho
    · show (o ++ s.data.toList).length ≤ _
      rw [List.length_append, hsl]; omega
  · exact ho

set_option maxRecDepth 100000 in
set_option maxHeartbeats 1000000 in
theorem rpfail_any (g : Nat) (v : Value) (o : List UInt8) (c d : Int) (w : World) (h : RW w g v o c) (ho : o.length ≤ 268435456) (hd : d ≠ 0) :
    Calls Tryd.prog 42 #[.pointer (some ⟨g, 0, none⟩), .int .i64 d] w (RPost g (thenP (nS o c) (failT d)) w) := by
  have HP := Lib.hid h
  have HD := Lib.hid hd
  clear h hd
  by_cases hc : c = 0 ∧ ¬ 65536 < o.length
  · obtain ⟨rfl, hl⟩ := hc
    have HE : Hid (raddF o 0 (⟨#[]⟩ : ByteArray).data.toList = (o, 0)) := by show _ = _; unfold raddF; rw [if_pos rfl, if_neg hl]; simp
    go_enter Tryd.func42, Tryd.ntmps42
    go_wp2_with fail
    refine (radd_exact g v o 0 ⟨#[]⟩ w HP.out ho (by decide)).mono ?_
    rintro e w1 ⟨rfl, hf, v1, hp⟩
    rw [HE.out] at hp
    have H1 : Hid (RW w1 g v1 o 0 ∧ PFr g w w1) := ⟨hp, hf⟩
    have k1 := hp.c1
    have f1 := hp.f 1
    clear hp hf
    have H2 := Lib.hid (H1.out.1.setCode d)
    go_wp2_with fail
    go_end0
    refine ⟨rfl, H1.out.2.set 1 _, _, _, d, H2.out, ?_, ho⟩
    rw [nS_err HD.out, nS_ok hl]
    exact (outP_fail (by omega)).symm
  · have HE : Hid (∃ x, x ≠ 0 ∧ raddF o c (⟨#[]⟩ : ByteArray).data.toList = (o, x) ∧ nS o c = .error x) := by
      by_cases h0 : c = 0
      · subst h0
        have hl : 65536 < o.length := by
          by_cases hl : 65536 < o.length
          · exact hl
          · exact absurd ⟨rfl, hl⟩ hc
        exact ⟨302, by decide, by unfold raddF; rw [if_pos rfl, if_pos hl], nS_long hl⟩
      · exact ⟨c, h0, if_neg h0, nS_err h0⟩
    clear hc
    go_enter Tryd.func42, Tryd.ntmps42
    go_wp2_with fail
    refine (radd_exact g v o c ⟨#[]⟩ w HP.out ho (by decide)).mono ?_
    rintro e w1 ⟨rfl, hf, v1, hp⟩
    obtain ⟨x, hx0, hx1, hx2⟩ := HE.out
    rw [hx1] at hp
    have H1 : Hid (RW w1 g v1 o x ∧ PFr g w w1 ∧ x ≠ 0 ∧ nS o c = .error x) := ⟨hp, hf, hx0, hx2⟩
    have k1 := hp.c1
    have hxb : (x == 0) = false := beq_eq_false_iff_ne.2 hx0
    clear hp hf hx0 hx1 hx2
    go_wp2_with fail
    go_end0
    refine ⟨rfl, H1.out.2.1, _, _, x, H1.out.1, ?_, ho⟩
    rw [nS_err H1.out.2.2.1, H1.out.2.2.2]; rfl

end Go.Proofs.YtbhnfehpbbibbaaDoor

namespace Go.Proofs.YtbhnfehpbbibbaaDoor
open Go.RowKit

theorem brow_app {w : World} {base m : Nat} {v : Value} {acc l : List UInt8} {vs : List Value} (h : w.ownsRow base 5 1 v m ((acc.map fun b => Value.int .u8 b.toNat) ++ vs)) (hv : vs = l.map fun b => Value.int .u8 b.toNat) (hm : m = acc.length + l.length) : BRow w base v (acc ++ l) := by
  subst hv
  unfold BRow
  rw [List.length_append, ← hm, List.map_append]; exact h
theorem toNat_hexB {d : Nat} (h : d < 16) : (hexB d).toNat = if d < 10 then 48 + d else 87 + d := by
  unfold hexB
  split <;> simp <;> omega
theorem hexL_at : ∀ d < 16, ∀ hp : d < hexL.size, ((hexL[d]'hp).toNat : Int) = ((hexB d).toNat : Int) := by decide +kernel
theorem fresh_own (w : World) (base : Nat) (hb : base ≤ w.heap.size) (l : List UInt8) (cs : Array Value) (hcs : cs.toList = l.map fun b => Value.int .u8 b.toNat) (hl : l ≠ []) (hlen : l.length ≤ 1000) : BRow (w.alloc (.cells cs 5)) base (.slice (some ⟨w.heap.size, 0, none⟩) l.length l.length) l := by
  have hs : cs.size = l.length := by rw [← Array.length_toList, hcs, List.length_map]
  refine ⟨by rw [List.length_map, Nat.mul_one], .inr ⟨w.heap.size, l.length, cs, rfl, hb, ?_, Nat.le_refl _, ?_, ?_, ?_⟩⟩
  · show (w.heap.push _)[w.heap.size]? = _; simp
  · unfold maxLen; omega
  · rw [hs, Nat.mul_one]
  · rw [hcs, Nat.mul_one, List.take_of_length_le (by rw [List.length_map]; exact Nat.le_refl _)]

theorem below_grown {B : Nat} {a w w' : World} {row : Option Nat} (h : Below B a w) (hg : w.grownBy w' row) (hB : B ≤ a.heap.size) (hr : ∀ j, row = some j → B ≤ j) : Below B a w' :=
  ⟨hg.os.trans h.os, hg.tape.trans h.tape, hg.output.trans h.output, Nat.le_trans h.size hg.size, fun k hk => by
    have := h.size
    exact (hg.block k (by omega) (fun e => by have := hr k e.symm; omega)).trans (h.block k hk)⟩
set_option maxRecDepth 100000 in
set_option maxHeartbeats 8000000 in
theorem quote_any (s : ByteArray) (w : World) (hs : s.size ≤ 33554432) :
    Calls Tryd.prog 44 #[.string s] w fun e w' => e = .returned (.string ⟨(quoteS s).toArray⟩) ∧ Below w.heap.size w w' := by
  obtain ⟨i0, hinfo, hz0, hz1, hz2⟩ := info_parts uinfo
  go_enter Tryd.func44, Tryd.ntmps44
  go_wp2_with fail
  have H0 : Hid (BRow (w.alloc (.cells #[.int .u8 34] 5)) w.heap.size (.slice (some ⟨w.heap.size, 0, none⟩) 1 1) (quoF s 0) ∧ Below w.heap.size w (w.alloc (.cells #[.int .u8 34] 5))) :=
    ⟨fresh_own w w.heap.size (Nat.le_refl _) [34] _ rfl (by decide) (by decide), (Below.refl _ _).alloc (Nat.le_refl _) _⟩
  go_loopg [3, 5] (s.size) (fun nn v3 v5 wr => ∃ (m : Nat), v5 = .int .i64 m ∧ m ≤ s.size ∧ nn = s.size - m ∧ Hid (BRow wr w.heap.size v3 (quoF s m) ∧ Below w.heap.size w wr))
  case atStart => exact ⟨0, rfl, Nat.zero_le _, rfl, H0.out⟩
  case round =>
    obtain ⟨k, rfl, hk, hn, H⟩ := hrel
    have HN := Lib.hid hn
    have hql : (quoF s k).length ≤ 6 * k + 1 := by
      have := qAll_len (s.data.toList.take k)
      have h2 : (s.data.toList.take k).length ≤ k := List.length_take_le _ _
      unfold quoF; rw [List.length_cons]; omega
    have hz := H.out.2.size
    obtain ⟨A3, c3, hv3⟩ := own_form H.out.1
    subst hv3
    clear hn H0
    by_cases hlt : k < s.size
    case neg =>
      obtain rfl : k = s.size := by omega
      have HE := Lib.hid (quoF_end s)
      have hql2 : (quoF s s.size).length ≤ 201326593 := by omega
      go_wp2_with (at_builtin; refine wpList_append_lies _ rfl _ _ 53 rfl w.heap.size 5 i0 _ 1 1 Tryd.underlying53 hinfo hz0 hz1 hz2 rfl (by omega) (.slice A3 (quoF s s.size).length c3) (quoF s s.size).length _ rfl (by exact World.ownsRow.alloc H.out.1 _) ⟨wr.heap.size, 0, none⟩ 1 1 [.int .u8 34] rfl rfl (World.news_of_block (cs := #[.int .u8 34]) (t := 5) (fr := (0, 0)) (heap_alloc_new wr _)) (by simp [Value.oneCell']) (by omega) (by unfold maxLen; omega) (by omega) (by rw [World.size_alloc]; omega) (wr.heap.size + 1) (by simp) ?_)
      intro gg cap w5 hown hgr _ _
      have HB : Hid (BRow w5 w.heap.size (.slice (some ⟨gg, 0, none⟩) ((quoF s s.size).length + 1) cap) (quoteS s) ∧ Below w.heap.size w w5) := by
        refine ⟨?_, below_grown (H.out.2.trans (((Below.refl _ _).alloc (Nat.le_refl _) _).mono H.out.2.size)) hgr (Nat.le_refl _) (fun j hj => (H.out.1.lt j hj).1)⟩
        rw [HE.out]
        exact brow_app (l := [34]) hown rfl rfl
      have hconv := HB.out.1.text
      clear hown hgr
      go_wp2_with fail
      go_ret
      exact ⟨rfl, HB.out.2⟩
    case pos =>
      have hd : decide ((k : Int) < s.size) = true := decide_eq_true (by omega)
      have hc256 : (s[k]'hlt).toNat < 256 := UInt8.toNat_lt _
      have HQ := Lib.hid (quoF_succ hlt)
      by_cases h34 : (s[k]'hlt).toNat = 34
      case pos =>
        have q34 : (((s[k]'hlt).toNat : Int) == 34) = true := by rw [h34]; rfl
        have HH := Lib.hid h34
        clear h34
        have HL : Hid (qB (s[k]'hlt) = [92, s[k]'hlt]) := by show _ = _; unfold qB; simp [HH.out]
        go_wp2_with (at_builtin; refine wpList_append_lies _ rfl _ _ 53 rfl w.heap.size 5 i0 _ 1 1 Tryd.underlying53 hinfo hz0 hz1 hz2 rfl (by omega) (.slice A3 (quoF s k).length c3) (quoF s k).length _ rfl (by exact World.ownsRow.alloc H.out.1 _) ⟨wr.heap.size, 0, none⟩ 2 2 [.int .u8 92, .int .u8 ((s[k]'hlt).toNat : Int)] rfl rfl (World.news_of_block (cs := #[.int .u8 92, .int .u8 ((s[k]'hlt).toNat : Int)]) (t := 5) (fr := (0, 0)) (heap_alloc_new wr _)) (by simp [Value.oneCell']) (by omega) (by unfold maxLen; omega) (by omega) (by rw [World.size_alloc]; omega) (wr.heap.size + 1) (by simp) ?_)
        intro gg cap w5 hown hgr _ _
        have HB : Hid (BRow w5 w.heap.size (.slice (some ⟨gg, 0, none⟩) ((quoF s k).length + 2) cap) (quoF s (k + 1)) ∧ Below w.heap.size w w5) := by
          refine ⟨?_, below_grown (H.out.2.trans (((Below.refl wr.heap.size wr).alloc (Nat.le_refl _) _).mono H.out.2.size)) hgr (Nat.le_refl _) (fun j hj => (H.out.1.lt j hj).1)⟩
          rw [HQ.out, HL.out]
          exact brow_app (l := [92, s[k]'hlt]) hown (by first | rfl | exact HCS.out) rfl
        clear hown hgr
        go_wp2_with fail
        go_roundg (s.size - (k + 1))
        case measure => have := HN.out; omega
        case rel => exact ⟨k + 1, by go_num, by omega, rfl, HB.out⟩
      case neg =>
        by_cases h92 : (s[k]'hlt).toNat = 92
        case pos =>
          have q34 : (((s[k]'hlt).toNat : Int) == 34) = false := by exact beq_eq_false_iff_ne.2 (by omega)
          have q92 : (((s[k]'hlt).toNat : Int) == 92) = true := by rw [h92]; rfl
          have HH := Lib.hid h92
          clear h92 h34
          have HL : Hid (qB (s[k]'hlt) = [92, s[k]'hlt]) := by show _ = _; unfold qB; simp [HH.out]
          go_wp2_with (at_builtin; refine wpList_append_lies _ rfl _ _ 53 rfl w.heap.size 5 i0 _ 1 1 Tryd.underlying53 hinfo hz0 hz1 hz2 rfl (by omega) (.slice A3 (quoF s k).length c3) (quoF s k).length _ rfl (by exact World.ownsRow.alloc H.out.1 _) ⟨wr.heap.size, 0, none⟩ 2 2 [.int .u8 92, .int .u8 ((s[k]'hlt).toNat : Int)] rfl rfl (World.news_of_block (cs := #[.int .u8 92, .int .u8 ((s[k]'hlt).toNat : Int)]) (t := 5) (fr := (0, 0)) (heap_alloc_new wr _)) (by simp [Value.oneCell']) (by omega) (by unfold maxLen; omega) (by omega) (by rw [World.size_alloc]; omega) (wr.heap.size + 1) (by simp) ?_)
          intro gg cap w5 hown hgr _ _
          have HB : Hid (BRow w5 w.heap.size (.slice (some ⟨gg, 0, none⟩) ((quoF s k).length + 2) cap) (quoF s (k + 1)) ∧ Below w.heap.size w w5) := by
            refine ⟨?_, below_grown (H.out.2.trans (((Below.refl wr.heap.size wr).alloc (Nat.le_refl _) _).mono H.out.2.size)) hgr (Nat.le_refl _) (fun j hj => (H.out.1.lt j hj).1)⟩
            rw [HQ.out, HL.out]
            exact brow_app (l := [92, s[k]'hlt]) hown (by first | rfl | exact HCS.out) rfl
          clear hown hgr
          go_wp2_with fail
          go_roundg (s.size - (k + 1))
          case measure => have := HN.out; omega
          case rel => exact ⟨k + 1, by go_num, by omega, rfl, HB.out⟩
        case neg =>
          by_cases h8 : (s[k]'hlt).toNat = 8
          case pos =>
            have q34 : (((s[k]'hlt).toNat : Int) == 34) = false := by exact beq_eq_false_iff_ne.2 (by omega)
            have q92 : (((s[k]'hlt).toNat : Int) == 92) = false := by exact beq_eq_false_iff_ne.2 (by omega)
            have q8 : (((s[k]'hlt).toNat : Int) == 8) = true := by rw [h8]; rfl
            have HH := Lib.hid h8
            clear h8 h34 h92
            have HL : Hid (qB (s[k]'hlt) = [92, 98]) := by show _ = _; unfold qB; simp [HH.out]
            go_wp2_with (at_builtin; refine wpList_append_lies _ rfl _ _ 53 rfl w.heap.size 5 i0 _ 1 1 Tryd.underlying53 hinfo hz0 hz1 hz2 rfl (by omega) (.slice A3 (quoF s k).length c3) (quoF s k).length _ rfl (by exact World.ownsRow.alloc H.out.1 _) ⟨wr.heap.size, 0, none⟩ 2 2 [.int .u8 92, .int .u8 98] rfl rfl (World.news_of_block (cs := #[.int .u8 92, .int .u8 98]) (t := 5) (fr := (0, 0)) (heap_alloc_new wr _)) (by simp [Value.oneCell']) (by omega) (by unfold maxLen; omega) (by omega) (by rw [World.size_alloc]; omega) (wr.heap.size + 1) (by simp) ?_)
            intro gg cap w5 hown hgr _ _
            have HB : Hid (BRow w5 w.heap.size (.slice (some ⟨gg, 0, none⟩) ((quoF s k).length + 2) cap) (quoF s (k + 1)) ∧ Below w.heap.size w w5) := by
              refine ⟨?_, below_grown (H.out.2.trans (((Below.refl wr.heap.size wr).alloc (Nat.le_refl _) _).mono H.out.2.size)) hgr (Nat.le_refl _) (fun j hj => (H.out.1.lt j hj).1)⟩
              rw [HQ.out, HL.out]
              exact brow_app (l := [92, 98]) hown (by first | rfl | exact HCS.out) rfl
            clear hown hgr
            go_wp2_with fail
            go_roundg (s.size - (k + 1))
            case measure => have := HN.out; omega
            case rel => exact ⟨k + 1, by go_num, by omega, rfl, HB.out⟩
          case neg =>
            by_cases h12 : (s[k]'hlt).toNat = 12
            case pos =>
              have q34 : (((s[k]'hlt).toNat : Int) == 34) = false := by exact beq_eq_false_iff_ne.2 (by omega)
              have q92 : (((s[k]'hlt).toNat : Int) == 92) = false := by exact beq_eq_false_iff_ne.2 (by omega)
              have q8 : (((s[k]'hlt).toNat : Int) == 8) = false := by exact beq_eq_false_iff_ne.2 (by omega)
              have q12 : (((s[k]'hlt).toNat : Int) == 12) = true := by rw [h12]; rfl
              have HH := Lib.hid h12
              clear h12 h34 h92 h8
              have HL : Hid (qB (s[k]'hlt) = [92, 102]) := by show _ = _; unfold qB; simp [HH.out]
              go_wp2_with (at_builtin; refine wpList_append_lies _ rfl _ _ 53 rfl w.heap.size 5 i0 _ 1 1 Tryd.underlying53 hinfo hz0 hz1 hz2 rfl (by omega) (.slice A3 (quoF s k).length c3) (quoF s k).length _ rfl (by exact World.ownsRow.alloc H.out.1 _) ⟨wr.heap.size, 0, none⟩ 2 2 [.int .u8 92, .int .u8 102] rfl rfl (World.news_of_block (cs := #[.int .u8 92, .int .u8 102]) (t := 5) (fr := (0, 0)) (heap_alloc_new wr _)) (by simp [Value.oneCell']) (by omega) (by unfold maxLen; omega) (by omega) (by rw [World.size_alloc]; omega) (wr.heap.size + 1) (by simp) ?_)
              intro gg cap w5 hown hgr _ _
              have HB : Hid (BRow w5 w.heap.size (.slice (some ⟨gg, 0, none⟩) ((quoF s k).length + 2) cap) (quoF s (k + 1)) ∧ Below w.heap.size w w5) := by
                refine ⟨?_, below_grown (H.out.2.trans (((Below.refl wr.heap.size wr).alloc (Nat.le_refl _) _).mono H.out.2.size)) hgr (Nat.le_refl _) (fun j hj => (H.out.1.lt j hj).1)⟩
                rw [HQ.out, HL.out]
                exact brow_app (l := [92, 102]) hown (by first | rfl | exact HCS.out) rfl
              clear hown hgr
              go_wp2_with fail
              go_roundg (s.size - (k + 1))
              case measure => have := HN.out; omega
              case rel => exact ⟨k + 1, by go_num, by omega, rfl, HB.out⟩
            case neg =>
              by_cases h10 : (s[k]'hlt).toNat = 10
              case pos =>
                have q34 : (((s[k]'hlt).toNat : Int) == 34) = false := by exact beq_eq_false_iff_ne.2 (by omega)
                have q92 : (((s[k]'hlt).toNat : Int) == 92) = false := by exact beq_eq_false_iff_ne.2 (by omega)
                have q8 : (((s[k]'hlt).toNat : Int) == 8) = false := by exact beq_eq_false_iff_ne.2 (by omega)
                have q12 : (((s[k]'hlt).toNat : Int) == 12) = false := by exact beq_eq_false_iff_ne.2 (by omega)
                have q10 : (((s[k]'hlt).toNat : Int) == 10) = true := by rw [h10]; rfl
                have HH := Lib.hid h10
                clear h10 h34 h92 h8 h12
                have HL : Hid (qB (s[k]'hlt) = [92, 110]) := by show _ = _; unfold qB; simp [HH.out]
                go_wp2_with (at_builtin; refine wpList_append_lies _ rfl _ _ 53 rfl w.heap.size 5 i0 _ 1 1 Tryd.underlying53 hinfo hz0 hz1 hz2 rfl (by omega) (.slice A3 (quoF s k).length c3) (quoF s k).length _ rfl (by exact World.ownsRow.alloc H.out.1 _) ⟨wr.heap.size, 0, none⟩ 2 2 [.int .u8 92, .int .u8 110] rfl rfl (World.news_of_block (cs := #[.int .u8 92, .int .u8 110]) (t := 5) (fr := (0, 0)) (heap_alloc_new wr _)) (by simp [Value.oneCell']) (by omega) (by unfold maxLen; omega) (by omega) (by rw [World.size_alloc]; omega) (wr.heap.size + 1) (by simp) ?_)
                intro gg cap w5 hown hgr _ _
                have HB : Hid (BRow w5 w.heap.size (.slice (some ⟨gg, 0, none⟩) ((quoF s k).length + 2) cap) (quoF s (k + 1)) ∧ Below w.heap.size w w5) := by
                  refine ⟨?_, below_grown (H.out.2.trans (((Below.refl wr.heap.size wr).alloc (Nat.le_refl _) _).mono H.out.2.size)) hgr (Nat.le_refl _) (fun j hj => (H.out.1.lt j hj).1)⟩
                  rw [HQ.out, HL.out]
                  exact brow_app (l := [92, 110]) hown (by first | rfl | exact HCS.out) rfl
                clear hown hgr
                go_wp2_with fail
                go_roundg (s.size - (k + 1))
                case measure => have := HN.out; omega
                case rel => exact ⟨k + 1, by go_num, by omega, rfl, HB.out⟩
              case neg =>
                by_cases h13 : (s[k]'hlt).toNat = 13
                case pos =>
                  have q34 : (((s[k]'hlt).toNat : Int) == 34) = false := by exact beq_eq_false_iff_ne.2 (by omega)
                  have q92 : (((s[k]'hlt).toNat : Int) == 92) = false := by exact beq_eq_false_iff_ne.2 (by omega)
                  have q8 : (((s[k]'hlt).toNat : Int) == 8) = false := by exact beq_eq_false_iff_ne.2 (by omega)
                  have q12 : (((s[k]'hlt).toNat : Int) == 12) = false := by exact beq_eq_false_iff_ne.2 (by omega)
                  have q10 : (((s[k]'hlt).toNat : Int) == 10) = false := by exact beq_eq_false_iff_ne.2 (by omega)
                  have q13 : (((s[k]'hlt).toNat : Int) == 13) = true := by rw [h13]; rfl
                  have HH := Lib.hid h13
                  clear h13 h34 h92 h8 h12 h10
                  have HL : Hid (qB (s[k]'hlt) = [92, 114]) := by show _ = _; unfold qB; simp [HH.out]
                  go_wp2_with (at_builtin; refine wpList_append_lies _ rfl _ _ 53 rfl w.heap.size 5 i0 _ 1 1 Tryd.underlying53 hinfo hz0 hz1 hz2 rfl (by omega) (.slice A3 (quoF s k).length c3) (quoF s k).length _ rfl (by exact World.ownsRow.alloc H.out.1 _) ⟨wr.heap.size, 0, none⟩ 2 2 [.int .u8 92, .int .u8 114] rfl rfl (World.news_of_block (cs := #[.int .u8 92, .int .u8 114]) (t := 5) (fr := (0, 0)) (heap_alloc_new wr _)) (by simp [Value.oneCell']) (by omega) (by unfold maxLen; omega) (by omega) (by rw [World.size_alloc]; omega) (wr.heap.size + 1) (by simp) ?_)
                  intro gg cap w5 hown hgr _ _
                  have HB : Hid (BRow w5 w.heap.size (.slice (some ⟨gg, 0, none⟩) ((quoF s k).length + 2) cap) (quoF s (k + 1)) ∧ Below w.heap.size w w5) := by
                    refine ⟨?_, below_grown (H.out.2.trans (((Below.refl wr.heap.size wr).alloc (Nat.le_refl _) _).mono H.out.2.size)) hgr (Nat.le_refl _) (fun j hj => (H.out.1.lt j hj).1)⟩
                    rw [HQ.out, HL.out]
                    exact brow_app (l := [92, 114]) hown (by first | rfl | exact HCS.out) rfl
                  clear hown hgr
                  go_wp2_with fail
                  go_roundg (s.size - (k + 1))
                  case measure => have := HN.out; omega
                  case rel => exact ⟨k + 1, by go_num, by omega, rfl, HB.out⟩
                case neg =>
                  by_cases h9 : (s[k]'hlt).toNat = 9
                  case pos =>
                    have q34 : (((s[k]'hlt).toNat : Int) == 34) = false := by exact beq_eq_false_iff_ne.2 (by omega)
                    have q92 : (((s[k]'hlt).toNat : Int) == 92) = false := by exact beq_eq_false_iff_ne.2 (by omega)
                    have q8 : (((s[k]'hlt).toNat : Int) == 8) = false := by exact beq_eq_false_iff_ne.2 (by omega)
                    have q12 : (((s[k]'hlt).toNat : Int) == 12) = false := by exact beq_eq_false_iff_ne.2 (by omega)
                    have q10 : (((s[k]'hlt).toNat : Int) == 10) = false := by exact beq_eq_false_iff_ne.2 (by omega)
                    have q13 : (((s[k]'hlt).toNat : Int) == 13) = false := by exact beq_eq_false_iff_ne.2 (by omega)
                    have q9 : (((s[k]'hlt).toNat : Int) == 9) = true := by rw [h9]; rfl
                    have HH := Lib.hid h9
                    clear h9 h34 h92 h8 h12 h10 h13
                    have HL : Hid (qB (s[k]'hlt) = [92, 116]) := by show _ = _; unfold qB; simp [HH.out]
                    go_wp2_with (at_builtin; refine wpList_append_lies _ rfl _ _ 53 rfl w.heap.size 5 i0 _ 1 1 Tryd.underlying53 hinfo hz0 hz1 hz2 rfl (by omega) (.slice A3 (quoF s k).length c3) (quoF s k).length _ rfl (by exact World.ownsRow.alloc H.out.1 _) ⟨wr.heap.size, 0, none⟩ 2 2 [.int .u8 92, .int .u8 116] rfl rfl (World.news_of_block (cs := #[.int .u8 92, .int .u8 116]) (t := 5) (fr := (0, 0)) (heap_alloc_new wr _)) (by simp [Value.oneCell']) (by omega) (by unfold maxLen; omega) (by omega) (by rw [World.size_alloc]; omega) (wr.heap.size + 1) (by simp) ?_)
                    intro gg cap w5 hown hgr _ _
                    have HB : Hid (BRow w5 w.heap.size (.slice (some ⟨gg, 0, none⟩) ((quoF s k).length + 2) cap) (quoF s (k + 1)) ∧ Below w.heap.size w w5) := by
                      refine ⟨?_, below_grown (H.out.2.trans (((Below.refl wr.heap.size wr).alloc (Nat.le_refl _) _).mono H.out.2.size)) hgr (Nat.le_refl _) (fun j hj => (H.out.1.lt j hj).1)⟩
                      rw [HQ.out, HL.out]
                      exact brow_app (l := [92, 116]) hown (by first | rfl | exact HCS.out) rfl
                    clear hown hgr
                    go_wp2_with fail
                    go_roundg (s.size - (k + 1))
                    case measure => have := HN.out; omega
                    case rel => exact ⟨k + 1, by go_num, by omega, rfl, HB.out⟩
                  case neg =>
                    by_cases h32 : (s[k]'hlt).toNat < 32
                    case pos =>
                      have q34 : (((s[k]'hlt).toNat : Int) == 34) = false := by exact beq_eq_false_iff_ne.2 (by omega)
                      have q92 : (((s[k]'hlt).toNat : Int) == 92) = false := by exact beq_eq_false_iff_ne.2 (by omega)
                      have q8 : (((s[k]'hlt).toNat : Int) == 8) = false := by exact beq_eq_false_iff_ne.2 (by omega)
                      have q12 : (((s[k]'hlt).toNat : Int) == 12) = false := by exact beq_eq_false_iff_ne.2 (by omega)
                      have q10 : (((s[k]'hlt).toNat : Int) == 10) = false := by exact beq_eq_false_iff_ne.2 (by omega)
                      have q13 : (((s[k]'hlt).toNat : Int) == 13) = false := by exact beq_eq_false_iff_ne.2 (by omega)
                      have q9 : (((s[k]'hlt).toNat : Int) == 9) = false := by exact beq_eq_false_iff_ne.2 (by omega)
                      have q32 : decide (((s[k]'hlt).toNat : Int) < 32) = true := decide_eq_true (by omega)
                      have hb0 : (0 : Int) ≤ ((s[k]'hlt).toNat : Int) := by omega
                      have hb1 : ((s[k]'hlt).toNat : Int) < 32 := by omega
                      have HH : Hid ((s[k]'hlt).toNat < 32 ∧ (s[k]'hlt).toNat ≠ 34 ∧ (s[k]'hlt).toNat ≠ 92 ∧ (s[k]'hlt).toNat ≠ 8 ∧ (s[k]'hlt).toNat ≠ 12 ∧ (s[k]'hlt).toNat ≠ 10 ∧ (s[k]'hlt).toNat ≠ 13 ∧ (s[k]'hlt).toNat ≠ 9) := ⟨h32, h34, h92, h8, h12, h10, h13, h9⟩
                      clear h32 h34 h92 h8 h12 h10 h13 h9
                      have hm16 : (s[k]'hlt).toNat % 16 < 16 := by omega
                      have hd16 : (s[k]'hlt).toNat / 16 < 16 := by omega
                      have HO6 : Hid (∀ o, ((wr.alloc o).drew).ownsRow w.heap.size 5 1 (.slice A3 (quoF s k).length c3) (quoF s k).length ((quoF s k).map fun b => Value.int .u8 b.toNat)) := fun o => World.ownsRow.alloc H.out.1 o
                      have HS6 : Hid (∀ o, w.heap.size ≤ ((wr.alloc o).drew).heap.size) := fun o => by show w.heap.size ≤ (wr.alloc o).heap.size; rw [World.size_alloc]; omega
                      have ed1 : IntKind.u8.wrap (((s[k]'hlt).toNat : Int) / 16) = ((s[k]'hlt).toNat : Int) / 16 := IntWalk.u8_in _ ⟨by omega, by omega⟩
                      have ed2 : 0 ≤ ((s[k]'hlt).toNat : Int) / 16 := by omega
                      have ed3 : ((s[k]'hlt).toNat : Int) / 16 < 16 := by omega
                      have ed4 : (((s[k]'hlt).toNat : Int) / 16).toNat = (s[k]'hlt).toNat / 16 := by omega
                      have em1 : IntKind.u8.wrap (((s[k]'hlt).toNat : Int) % 16) = ((s[k]'hlt).toNat : Int) % 16 := IntWalk.u8_in _ ⟨by omega, by omega⟩
                      have em2 : 0 ≤ ((s[k]'hlt).toNat : Int) % 16 := by omega
                      have em3 : ((s[k]'hlt).toNat : Int) % 16 < 16 := by omega
                      have em4 : (((s[k]'hlt).toNat : Int) % 16).toNat = (s[k]'hlt).toNat % 16 := by omega
                      have em0 : ((s[k]'hlt).toNat : Int).tmod 16 = ((s[k]'hlt).toNat : Int) % 16 := Int.tmod_eq_emod_of_nonneg hb0
                      go_wp2_with fail
                      go_region_law (refine step_append_lies _ (by rfl) _ _ 53 rfl w.heap.size 5 i0 _ 1 1 Tryd.underlying53 hinfo hz0 hz1 hz2 rfl (by omega) (.slice A3 (quoF s k).length c3) (quoF s k).length _ (by rfl) (HO6.out _) ⟨wr.heap.size, 0, none⟩ 6 6 [.int .u8 92, .int .u8 117, .int .u8 48, .int .u8 48, .int .u8 (((⟨#[48, 49, 50, 51, 52, 53, 54, 55, 56, 57, 97, 98, 99, 100, 101, 102]⟩ : ByteArray)[(s[k]'hlt).toNat / 16]'hd16).toNat : Int), .int .u8 (((⟨#[48, 49, 50, 51, 52, 53, 54, 55, 56, 57, 97, 98, 99, 100, 101, 102]⟩ : ByteArray)[(s[k]'hlt).toNat % 16]'hm16).toNat : Int)] (by rfl) (by rfl) (World.news_of_block (cs := #[.int .u8 92, .int .u8 117, .int .u8 48, .int .u8 48, .int .u8 (((⟨#[48, 49, 50, 51, 52, 53, 54, 55, 56, 57, 97, 98, 99, 100, 101, 102]⟩ : ByteArray)[(s[k]'hlt).toNat / 16]'hd16).toNat : Int), .int .u8 (((⟨#[48, 49, 50, 51, 52, 53, 54, 55, 56, 57, 97, 98, 99, 100, 101, 102]⟩ : ByteArray)[(s[k]'hlt).toNat % 16]'hm16).toNat : Int)]) (t := 5) (fr := (0, 0)) (heap_alloc_new wr _)) (by simp [Value.oneCell']) (by omega) (by unfold maxLen; omega) (by omega) (HS6.out _) (wr.heap.size + 1) (by simp) ?_; intro gg cap w5 hown hgr _ _)
                      all_goals
                        clear ed1 em0 em1 HO6 HS6
                        have HL : Hid (qB (s[k]'hlt) = [92, 117, 48, 48, hexB ((s[k]'hlt).toNat / 16), hexB ((s[k]'hlt).toNat % 16)]) := by show _ = _; unfold qB; simp [HH.out]
                        have HB : Hid (BRow w5 w.heap.size (.slice (some ⟨gg, 0, none⟩) ((quoF s k).length + 6) cap) (quoF s (k + 1)) ∧ Below w.heap.size w w5) := by
                          refine ⟨?_, below_grown (w := (wr.alloc _).drew) (H.out.2.trans ((below_drewN ((Below.refl wr.heap.size wr).alloc (Nat.le_refl _) _) 1).mono H.out.2.size)) hgr (Nat.le_refl _) (fun j hj => (H.out.1.lt j hj).1)⟩
                          rw [HQ.out, HL.out]
                          refine brow_app (l := [92, 117, 48, 48, hexB ((s[k]'hlt).toNat / 16), hexB ((s[k]'hlt).toNat % 16)]) hown ?_ rfl
                          simp only [List.map_cons, List.map_nil]
                          rw [← hexL_at _ hd16 hd16, ← hexL_at _ hm16 hm16]
                          rfl
                        clear hown hgr
                        go_wp2_with fail
                        go_roundg (s.size - (k + 1))
                        case measure => have := HN.out; omega
                        case rel => exact ⟨k + 1, by go_num, by omega, rfl, HB.out⟩
                    case neg =>
                      have q34 : (((s[k]'hlt).toNat : Int) == 34) = false := by exact beq_eq_false_iff_ne.2 (by omega)
                      have q92 : (((s[k]'hlt).toNat : Int) == 92) = false := by exact beq_eq_false_iff_ne.2 (by omega)
                      have q8 : (((s[k]'hlt).toNat : Int) == 8) = false := by exact beq_eq_false_iff_ne.2 (by omega)
                      have q12 : (((s[k]'hlt).toNat : Int) == 12) = false := by exact beq_eq_false_iff_ne.2 (by omega)
                      have q10 : (((s[k]'hlt).toNat : Int) == 10) = false := by exact beq_eq_false_iff_ne.2 (by omega)
                      have q13 : (((s[k]'hlt).toNat : Int) == 13) = false := by exact beq_eq_false_iff_ne.2 (by omega)
                      have q9 : (((s[k]'hlt).toNat : Int) == 9) = false := by exact beq_eq_false_iff_ne.2 (by omega)
                      have q32 : decide (((s[k]'hlt).toNat : Int) < 32) = false := decide_eq_false (by omega)
                      have HH : Hid (¬ (s[k]'hlt).toNat < 32 ∧ (s[k]'hlt).toNat ≠ 34 ∧ (s[k]'hlt).toNat ≠ 92 ∧ (s[k]'hlt).toNat ≠ 8 ∧ (s[k]'hlt).toNat ≠ 12 ∧ (s[k]'hlt).toNat ≠ 10 ∧ (s[k]'hlt).toNat ≠ 13 ∧ (s[k]'hlt).toNat ≠ 9) := ⟨h32, h34, h92, h8, h12, h10, h13, h9⟩
                      clear h32 h34 h92 h8 h12 h10 h13 h9
                      have HL : Hid (qB (s[k]'hlt) = [s[k]'hlt]) := by show _ = _; unfold qB; simp [HH.out]
                      go_wp2_with (at_builtin; refine wpList_append_lies _ rfl _ _ 53 rfl w.heap.size 5 i0 _ 1 1 Tryd.underlying53 hinfo hz0 hz1 hz2 rfl (by omega) (.slice A3 (quoF s k).length c3) (quoF s k).length _ rfl (by exact World.ownsRow.alloc H.out.1 _) ⟨wr.heap.size, 0, none⟩ 1 1 [.int .u8 ((s[k]'hlt).toNat : Int)] rfl rfl (World.news_of_block (cs := #[.int .u8 ((s[k]'hlt).toNat : Int)]) (t := 5) (fr := (0, 0)) (heap_alloc_new wr _)) (by simp [Value.oneCell']) (by omega) (by unfold maxLen; omega) (by omega) (by rw [World.size_alloc]; omega) (wr.heap.size + 1) (by simp) ?_)
                      intro gg cap w5 hown hgr _ _
                      have HB : Hid (BRow w5 w.heap.size (.slice (some ⟨gg, 0, none⟩) ((quoF s k).length + 1) cap) (quoF s (k + 1)) ∧ Below w.heap.size w w5) := by
                        refine ⟨?_, below_grown (H.out.2.trans (((Below.refl wr.heap.size wr).alloc (Nat.le_refl _) _).mono H.out.2.size)) hgr (Nat.le_refl _) (fun j hj => (H.out.1.lt j hj).1)⟩
                        rw [HQ.out, HL.out]
                        exact brow_app (l := [s[k]'hlt]) hown (by first | rfl | exact HCS.out) rfl
                      clear hown hgr
                      go_wp2_with fail
                      go_roundg (s.size - (k + 1))
                      case measure => have := HN.out; omega
                      case rel => exact ⟨k + 1, by go_num, by omega, rfl, HB.out⟩

end Go.Proofs.YtbhnfehpbbibbaaDoor
