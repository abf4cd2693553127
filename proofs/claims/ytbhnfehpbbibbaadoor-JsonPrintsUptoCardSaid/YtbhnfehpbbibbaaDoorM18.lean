/- The reference's parser: object, from what value comes to. -/
import Derived.Test.YtbhnfehpbbibbaaDoorM17

namespace Go.Proofs.YtbhnfehpbbibbaaDoor
open Go.RowKit

theorem key_cell {w : World} {base : Nat} {cap : Nat} {keys : List ByteArray} {i : Nat} {t : ByteArray} {A : Option Addr} (h : w.ownsRow base 9 1 (.slice A keys.length cap) keys.length (keys.map Value.string)) (hi : keys[i]? = some t) :
    ∃ b, A = some ⟨b, 0, none⟩ ∧ w.cell? ⟨b, i, none⟩ = some (.string t) := by
  obtain ⟨h1, h2⟩ := h
  have hl : i < keys.length := (List.getElem?_eq_some_iff.1 hi).1
  rcases h2 with ⟨hv, h2⟩ | ⟨g, cap', cur, hv, hg, hh, hn, hc, hs, ht⟩
  · omega
  · injection hv with hA _ _
    refine ⟨g, hA, ?_⟩
    simp only [World.cell?, hh, Option.isSome_none, Bool.false_eq_true, if_false]
    have h3 : (keys.map Value.string)[i]? = some (.string t) := by rw [List.getElem?_map, hi]; rfl
    rw [← ht, List.getElem?_take] at h3
    rw [← Array.getElem?_toList]
    split at h3
    · exact h3
    · cases h3
theorem memB_take_succ {key t : ByteArray} {keys : List ByteArray} {i : Nat} (h : keys[i]? = some t) : memB key (keys.take (i + 1)) = (memB key (keys.take i) || decide (t = key)) := by
  rw [List.take_add_one, h, memB_app]
  simp [memB]
theorem memB_take_true {key : ByteArray} {keys : List ByteArray} {n : Nat} (h : memB key (keys.take n) = true) : memB key keys = true := by
  have := memB_app key (keys.take n) (keys.drop n)
  rw [List.take_append_drop] at this
  rw [this, h]; rfl

set_option maxRecDepth 100000 in
set_option maxHeartbeats 4000000 in
theorem robj_zero : RObjC 0 := by
  intro g s i D w hs hi h hD
  have hD1 : 16 < D := by omega
  have HI := Lib.hid (RListI.start (obj := true) h (by omega))
  have hgl := h.lt
  obtain ⟨b0, b1, b2, b3, b4, b5⟩ := HI.out.out.cell
  clear h hD
  go_enter Tryd.func34, Tryd.ntmps34
  go_wp2_with fail
  refine (rfail_first g s i 301 _ HI.out.rs).mono ?_
  rintro e w1 ⟨rfl, hp, hb⟩
  have HI1 := Lib.hid (HI.out.next (by omega) hp hb (by omega))
  clear hp hb b0 b1 b2 b3 b4 b5
  obtain ⟨b0, b1, b2, b3, b4, b5⟩ := HI1.out.out.cell
  obtain ⟨r0, r1, r2, r3, r4, r5⟩ := HI1.out.res.cell
  have f0 := HI1.out.res.frozen 0
  have f1 := HI1.out.res.frozen 1
  have f2 := HI1.out.res.frozen 2
  have f3 := HI1.out.res.frozen 3
  have f4 := HI1.out.res.frozen 4
  have f5 := HI1.out.res.frozen 5
  simp only [if_true] at b0
  go_wp2_with fail
  refine ret_json Tryd.results34 rfl HI1.out.res fun W ho hJ => ?_
  exact RJPost.no (n := 301) rfl (by decide) HI1.out.kle ⟨rfl, HI1.out.rs.only ho (by omega), HI1.out.but.only ho (Nat.le_refl _)⟩ (HI1.out.rep_end.only ho (by omega) (by omega))

set_option maxRecDepth 100000 in
set_option maxHeartbeats 16000000 in
theorem robj_succ (lv : Nat) (hlv : lv < 16) (hv : RValueC lv) : RObjC (lv + 1) := by
  intro g s i D w hs0 hi h hD
  have hs : s.size ≤ 140737488351232 := by omega
  have HV := Lib.hid hv
  have HD := Lib.hid hD
  have hgl := h.lt
  have hD0 : 0 ≤ D := by omega
  have hD1 : D ≤ 16 := by omega
  obtain ⟨i0, hinfo, hz0, hz1, hz2⟩ := info_parts jinfo
  obtain ⟨i1, hinfo1, hy0, hy1, hy2⟩ := info_parts sinfo
  have HI0 := Lib.hid (RListI.start (obj := true) h (by omega))
  have q1 := HI0.out.rs.c1
  have q2 := HI0.out.rs.f1
  simp only [if_true] at q1 q2
  have hord : Hid (g < w.heap.size ∧ w.heap.size < w.heap.size + 2 ∧ g < w.heap.size + 1 ∧ w.heap.size + 1 < w.heap.size + 2) := ⟨by omega, by omega, by omega, by omega⟩
  have HIZ := Lib.hid (RListI.start2 (obj := true) (w := w) (wz := w.setCell ⟨g, 1, none⟩ (.int .i64 ((i : Int) + 1))) (k := i + 1) (h.set _ _ (by go_num)) ((But.refl g w).setOwn _ _) (by simp [World.setCell]) (by omega))
  clear h hv hD
  go_enter Tryd.func34, Tryd.ntmps34
  go_wp2_with fail
  have hwk := whS_le s (i + 1) (by omega)
  refine (rwhite_any g s (i + 1) 0 _ hs (by omega) (by exact HIZ.out.rs)).mono ?_
  rintro e w1 ⟨rfl, hp, hb⟩
  have HI1 := Lib.hid (HIZ.out.next hord.out hp hb hwk.2)
  clear hp hb q1 q2 HIZ HI0
  obtain ⟨k0, hk0⟩ : ∃ z, z = whS s (i + 1) := ⟨_, rfl⟩
  rw [← hk0] at HI1 hwk
  have HK0 := Lib.hid hk0
  clear hk0
  have HS0 : Hid (rinnerS s (lv + 1) i true = if bt s k0 = 125 then .ok (.mk 5 false 0 ⟨#[]⟩ [] [], k0 + 1) else memS s (rvalS s lv) true s.size k0 [] []) := by
    show seqS s (rvalS s lv) true (s.size + 1) true (whS s (i + 1)) [] [] = _
    rw [seq_eq, ← HK0.out]; rfl
  go_wp2_with fail
  cases hw : wordB s k0 ⟨#[125]⟩ with
  | true =>
    have hq := hw
    rw [word_one] at hq
    have hq2 : k0 < s.size ∧ bt s k0 = 125 := of_decide_eq_true hq
    have HE : Hid (rinnerS s (lv + 1) i true = .ok (.mk 5 false 0 ⟨#[]⟩ [] [], k0 + 1)) := by show _ = _; rw [HS0.out, if_pos hq2.2]
    have HW := Lib.hid hw
    clear hw hq
    refine (rword_yes g s _ k0 0 _ hs (by decide) HI1.out.rs hwk.2 HW.out).mono ?_
    rintro e w2 ⟨rfl, hp, hb⟩
    have HI2 := Lib.hid (HI1.out.next hord.out hp hb (show k0 + 1 ≤ s.size from hq2.1))
    clear hp hb
    obtain ⟨b0, b1, b2, b3, b4, b5⟩ := HI2.out.out.cell
    obtain ⟨r0, r1, r2, r3, r4, r5⟩ := HI2.out.res.cell
    have f0 := HI2.out.res.frozen 0
    have f1 := HI2.out.res.frozen 1
    have f2 := HI2.out.res.frozen 2
    have f3 := HI2.out.res.frozen 3
    have f4 := HI2.out.res.frozen 4
    have f5 := HI2.out.res.frozen 5
    simp only [if_true, Bool.false_eq_true, if_false] at b0
    go_wp2_with fail
    refine ret_json Tryd.results34 rfl HI2.out.res fun W ho hJ => ?_
    exact RJPost.yes HE.out HI2.out.kle ⟨rfl, HI2.out.rs.only ho (by omega), HI2.out.but.only ho (Nat.le_refl _)⟩ (HI2.out.rep_end.only ho (by omega) (by omega))
  | false =>
    have HS1 : Hid (rinnerS s (lv + 1) i true = memS s (rvalS s lv) true s.size k0 [] []) := by
      show _ = _
      rw [HS0.out, if_neg]
      intro h93
      rw [word_one] at hw
      exact absurd ⟨bt_in (by omega), h93⟩ (of_decide_eq_false hw)
    have HW := Lib.hid hw
    clear hw
    refine (rword_no g s _ k0 0 _ hs (by decide) HI1.out.rs hwk.2 HW.out).mono ?_
    rintro e w2 ⟨rfl, hp, hb⟩
    have HI2 := Lib.hid (HI1.out.next hord.out hp hb hwk.2)
    clear hp hb
    go_wp2_with fail
    go_loopg [] (s.size + 1 - k0) (fun n wr => ∃ (k : Nat) (c : Int) (keys : List ByteArray) (l : List J) (Lv Kv : Value) (css : List (List Value)), ((n = s.size + 1 - k ∧ c = 0 ∧ l.length ≤ k ∧ keys.length ≤ k ∧ ∃ f, s.size ≤ f + k ∧ Hid (rinnerS s (lv + 1) i true = memS s (rvalS s lv) true f (whS s k) keys l)) ∨ (n = 0 ∧ c ≠ 0 ∧ Hid (rinnerS s (lv + 1) i true = .error c))) ∧ Hid (RListI s g w.heap.size (w.heap.size + 1) (w.heap.size + 2) true w wr k c keys l Lv Kv css))
    case atStart => exact ⟨k0, 0, [], [], _, _, [], .inl ⟨rfl, rfl, by simp, by simp, s.size, by omega, by show _ = _; rw [HS1.out, HK0.out, whS_idem]⟩, HI2.out⟩
    case round =>
      obtain ⟨k, c, keys, l, Lv, Kv, css, hn, HI⟩ := hrel
      have q2 := HI.out.rs.c2
      rcases hn with ⟨hn, rfl, hlen, hlenk, f, hf, HS⟩ | ⟨hn, hc, HE⟩
      case inr =>
        have hcb : (c == 0) = false := beq_eq_false_iff_ne.2 hc
        have HC := Lib.hid hc
        clear hc hn
        obtain ⟨A1, c1, hLf⟩ := own_form HI.out.ownL
        subst hLf
        obtain ⟨A2, c2, hKf⟩ := own_form HI.out.ownK
        subst hKf
        obtain ⟨b0, b1, b2, b3, b4, b5⟩ := HI.out.out.cell
        obtain ⟨r0, r1, r2, r3, r4, r5⟩ := HI.out.res.cell
        have f0 := HI.out.res.frozen 0
        have f1 := HI.out.res.frozen 1
        have f2 := HI.out.res.frozen 2
        have f3 := HI.out.res.frozen 3
        have f4 := HI.out.res.frozen 4
        have f5 := HI.out.res.frozen 5
        simp only [if_true, Bool.false_eq_true, if_false] at b0
        go_wp2_with fail
        refine ret_json Tryd.results34 rfl HI.out.res fun W ho hJ => ?_
        exact RJPost.no HE.out HC.out HI.out.kle ⟨rfl, HI.out.rs.only ho (by omega), HI.out.but.only ho (Nat.le_refl _)⟩ (HI.out.rep_end.only ho (by omega) (by omega))
      case inl =>
        have HN := Lib.hid hn
        clear hn HI1 HI2
        have hk := HI.out.kle
        have hwk2 := whS_le s k hk
        go_wp2_with fail
        refine (rwhite_any g s k 0 _ hs hk HI.out.rs).mono ?_
        rintro e w3 ⟨rfl, hp, hb⟩
        have HI3 := Lib.hid (HI.out.next hord.out hp hb hwk2.2)
        clear hp hb q2
        obtain ⟨k1, hk1⟩ : ∃ z, z = whS s k := ⟨_, rfl⟩
        rw [← hk1] at HI3 HS hwk2
        have HK1 := Lib.hid hk1
        clear hk1

        have p0 := HI3.out.rs.c0
        have p1 := HI3.out.rs.c1
        by_cases hkl : k1 < s.size
        case neg =>
          have HQ : Hid (bt s k1 = 0) := bt_out (by omega)
          have hd : decide ((s.size : Int) ≤ k1) = true := decide_eq_true (by omega)
          have HE : Hid (rinnerS s (lv + 1) i true = .error 300) := by
            show _ = _
            rw [HS.out]; unfold memS textS; rw [if_neg (show ¬ bt s k1 = 34 by have := HQ.out; omega)]; rfl
          go_wp2_with fail
          go_quiet (fail)
          go_wp2_with fail
          refine (rfail_first g s k1 300 _ (by exact HI3.out.rs)).mono ?_
          rintro e w4 ⟨rfl, hp, hb⟩
          clear p0 p1
          have HI4 := Lib.hid (HI3.out.next hord.out hp (But.trans (by (repeat' (first | (with_reducible exact But.refl _ _) | (with_reducible assumption) | (with_reducible refine But.drewN ?_ _) | (with_reducible refine But.drew ?_) | (with_reducible refine But.alloc ?_ _) | (with_reducible refine But.setOwn ?_ _ _)))) hb) hwk2.2)
          clear hp hb
          obtain ⟨A1, c1, hLf⟩ := own_form HI4.out.ownL
          subst hLf
          obtain ⟨A2, c2, hKf⟩ := own_form HI4.out.ownK
          subst hKf
          obtain ⟨b0, b1, b2, b3, b4, b5⟩ := HI4.out.out.cell
          obtain ⟨r0, r1, r2, r3, r4, r5⟩ := HI4.out.res.cell
          have f0 := HI4.out.res.frozen 0
          have f1 := HI4.out.res.frozen 1
          have f2 := HI4.out.res.frozen 2
          have f3 := HI4.out.res.frozen 3
          have f4 := HI4.out.res.frozen 4
          have f5 := HI4.out.res.frozen 5
          simp only [if_true, Bool.false_eq_true, if_false] at b0
          go_wp2_with fail
          refine ret_json Tryd.results34 rfl HI4.out.res fun W ho hJ => ?_
          exact RJPost.no HE.out (by decide) HI4.out.kle ⟨rfl, HI4.out.rs.only ho (by omega), HI4.out.but.only ho (Nat.le_refl _)⟩ (HI4.out.rep_end.only ho (by omega) (by omega))
        case pos =>
          have hd : decide ((s.size : Int) ≤ k1) = false := decide_eq_false (by omega)
          have HB := Lib.hid (bt_at hkl)
          by_cases hq : bt s k1 = 34
          case neg =>
            have HQ : Hid (bt s k1 ≠ 34) := hq
            have hqb : (((s[k1]'hkl).toNat : Int) != 34) = true := bne_iff_ne.2 (by have := HB.out; omega)
            clear hq
            have HE : Hid (rinnerS s (lv + 1) i true = .error 300) := by
              show _ = _
              rw [HS.out]; unfold memS textS; rw [if_neg (show ¬ bt s k1 = 34 by have := HQ.out; omega)]; rfl
            go_wp2_with fail
            go_quiet (fail)
            go_wp2_with fail
            refine (rfail_first g s k1 300 _ (by exact HI3.out.rs)).mono ?_
            rintro e w4 ⟨rfl, hp, hb⟩
            clear p0 p1
            have HI4 := Lib.hid (HI3.out.next hord.out hp (But.trans (by (repeat' (first | (with_reducible exact But.refl _ _) | (with_reducible assumption) | (with_reducible refine But.drewN ?_ _) | (with_reducible refine But.drew ?_) | (with_reducible refine But.alloc ?_ _) | (with_reducible refine But.setOwn ?_ _ _)))) hb) hwk2.2)
            clear hp hb
            obtain ⟨A1, c1, hLf⟩ := own_form HI4.out.ownL
            subst hLf
            obtain ⟨A2, c2, hKf⟩ := own_form HI4.out.ownK
            subst hKf
            obtain ⟨b0, b1, b2, b3, b4, b5⟩ := HI4.out.out.cell
            obtain ⟨r0, r1, r2, r3, r4, r5⟩ := HI4.out.res.cell
            have f0 := HI4.out.res.frozen 0
            have f1 := HI4.out.res.frozen 1
            have f2 := HI4.out.res.frozen 2
            have f3 := HI4.out.res.frozen 3
            have f4 := HI4.out.res.frozen 4
            have f5 := HI4.out.res.frozen 5
            simp only [if_true, Bool.false_eq_true, if_false] at b0
            go_wp2_with fail
            refine ret_json Tryd.results34 rfl HI4.out.res fun W ho hJ => ?_
            exact RJPost.no HE.out (by decide) HI4.out.kle ⟨rfl, HI4.out.rs.only ho (by omega), HI4.out.but.only ho (Nat.le_refl _)⟩ (HI4.out.rep_end.only ho (by omega) (by omega))
          case pos =>
            have hqb : (((s[k1]'hkl).toNat : Int) != 34) = false := by rw [← HB.out, hq]; rfl
            have HQ : Hid (bt s k1 = 34) := hq
            clear hq
            have HS2 : Hid (rinnerS s (lv + 1) i true = match txtS s (k1 + 1) with | none => .error 300 | some (key, i2) => if memB key keys then .error 300 else if bt s (whS s i2) = 58 then (match rvalS s lv (whS s (whS s i2 + 1)) with | .error e => .error e | .ok (j, i3) => seqS s (rvalS s lv) true f false (whS s i3) (keys ++ [key]) (l ++ [j])) else .error 300) := by
              show _ = _
              rw [HS.out]; unfold memS textS; rw [if_pos HQ.out]; rfl
            go_wp2_with fail
            go_quiet (fail)
            go_wp2_with fail
            refine (rtext_any g s k1 _ hs hkl (by exact HI3.out.rs)).mono ?_
            intro e w4 hx
            have HX := Lib.hid hx
            clear hx
            cases ht : txtS s (k1 + 1) with
            | none =>
              have HE : Hid (rinnerS s (lv + 1) i true = .error 300) := by show _ = _; rw [HS2.out, ht]
              obtain ⟨j, hj, rfl, hp, hb⟩ := HX.out.at_none ht
              clear ht HX p0 p1
              have HI4 := Lib.hid (HI3.out.next hord.out hp (But.trans (by (repeat' (first | (with_reducible exact But.refl _ _) | (with_reducible assumption) | (with_reducible refine But.drewN ?_ _) | (with_reducible refine But.drew ?_) | (with_reducible refine But.alloc ?_ _) | (with_reducible refine But.setOwn ?_ _ _)))) hb) hj)
              clear hp hb
              have q4 := HI4.out.rs.c2
              obtain ⟨A1, c1, hLf⟩ := own_form HI4.out.ownL
              subst hLf
              obtain ⟨A2, c2, hKf⟩ := own_form HI4.out.ownK
              subst hKf
              obtain ⟨b0, b1, b2, b3, b4, b5⟩ := HI4.out.out.cell
              obtain ⟨r0, r1, r2, r3, r4, r5⟩ := HI4.out.res.cell
              have f0 := HI4.out.res.frozen 0
              have f1 := HI4.out.res.frozen 1
              have f2 := HI4.out.res.frozen 2
              have f3 := HI4.out.res.frozen 3
              have f4 := HI4.out.res.frozen 4
              have f5 := HI4.out.res.frozen 5
              simp only [if_true, Bool.false_eq_true, if_false] at b0
              go_wp2_with fail
              refine ret_json Tryd.results34 rfl HI4.out.res fun W ho hJ => ?_
              exact RJPost.no HE.out (by decide) HI4.out.kle ⟨rfl, HI4.out.rs.only ho (by omega), HI4.out.but.only ho (Nat.le_refl _)⟩ (HI4.out.rep_end.only ho (by omega) (by omega))
            | some q =>
              obtain ⟨key, i2⟩ := q
              have hin := txtF_in (show txtF s _ _ _ = _ from ht)
              have hi2 : i2 ≤ s.size := hin.2.1
              have hk12 : k1 + 1 < i2 := hin.1
              have HS3 : Hid (rinnerS s (lv + 1) i true = if memB key keys then .error 300 else if bt s (whS s i2) = 58 then (match rvalS s lv (whS s (whS s i2 + 1)) with | .error e => .error e | .ok (j, i3) => seqS s (rvalS s lv) true f false (whS s i3) (keys ++ [key]) (l ++ [j])) else .error 300) := by show _ = _; rw [HS2.out, ht]
              obtain ⟨rfl, hp, hb⟩ := HX.out.at_some ht
              clear ht HX p0 p1 hin
              have HI4 := Lib.hid (HI3.out.next hord.out hp (But.trans (by (repeat' (first | (with_reducible exact But.refl _ _) | (with_reducible assumption) | (with_reducible refine But.drewN ?_ _) | (with_reducible refine But.drew ?_) | (with_reducible refine But.alloc ?_ _) | (with_reducible refine But.setOwn ?_ _ _)))) hb) hi2)
              clear hp hb HS HS2
              have q4 := HI4.out.rs.c2
              obtain ⟨A2, c2, hKf⟩ := own_form HI4.out.ownK
              subst hKf
              have b5 := HI4.out.out.cell.2.2.2.2.2
              have hkl2 : keys.length ≤ s.size := by omega
              go_wp2_with fail
              go_loopw [7] (fun v7 wq => ∃ m : Nat, v7 = .int .i64 m ∧ m ≤ keys.length ∧ Hid (wq = w4 ∧ memB key (keys.take m) = false)) (fun v7 _ => keys.length - (intOf v7).toNat)
              case atStart => exact ⟨0, rfl, by omega, rfl, rfl⟩
              case round =>
                obtain ⟨m, rfl, hm, HQ2⟩ := hrel
                obtain rfl := HQ2.out.1
                by_cases hmk : m < keys.length
                · obtain ⟨t, ht⟩ : ∃ t, keys[m]? = some t := ⟨_, List.getElem?_eq_getElem hmk⟩
                  obtain ⟨bb, rfl, hcell⟩ := key_cell HI4.out.ownK ht
                  by_cases hte : t = key
                  · have e0 := same_yes hte
                    have HE : Hid (rinnerS s (lv + 1) i true = .error 300) := by
                      show _ = _
                      rw [HS3.out, if_pos]
                      refine memB_take_true (n := m + 1) ?_
                      rw [memB_take_succ ht, decide_eq_true hte, Bool.or_true]
                    clear hte
                    go_wp2_with fail
                    refine (rfail_first g s i2 300 _ HI4.out.rs).mono ?_
                    rintro e w5 ⟨rfl, hp, hb⟩
                    have HI5 := Lib.hid (HI4.out.next hord.out hp hb hi2)
                    clear hp hb b5 q4 hcell
                    obtain ⟨A1, c1, hLf⟩ := own_form HI5.out.ownL
                    subst hLf
                    obtain ⟨b0, b1, b2, b3, b4, b5⟩ := HI5.out.out.cell
                    obtain ⟨r0, r1, r2, r3, r4, r5⟩ := HI5.out.res.cell
                    have f0 := HI5.out.res.frozen 0
                    have f1 := HI5.out.res.frozen 1
                    have f2 := HI5.out.res.frozen 2
                    have f3 := HI5.out.res.frozen 3
                    have f4 := HI5.out.res.frozen 4
                    have f5 := HI5.out.res.frozen 5
                    simp only [if_true, Bool.false_eq_true, if_false] at b0
                    go_wp2_with fail
                    refine ret_json Tryd.results34 rfl HI5.out.res fun W ho hJ => ?_
                    exact RJPost.no HE.out (by decide) HI5.out.kle ⟨rfl, HI5.out.rs.only ho (by omega), HI5.out.but.only ho (Nat.le_refl _)⟩ (HI5.out.rep_end.only ho (by omega) (by omega))
                  · have e0 := same_no hte
                    have HK : Hid (memB key (keys.take (m + 1)) = false) := by
                      show _ = _
                      rw [memB_take_succ ht, HQ2.out.2, decide_eq_false hte]; rfl
                    clear hte
                    go_wp2_with fail
                    go_roundw
                    case rel => exact ⟨m + 1, by go_num, by omega, trivial, HK.out⟩
                    case measure => simp [intOf]; omega
                · obtain rfl : m = keys.length := by omega
                  have hmem : memB key keys = false := by have h := HQ2.out.2; rw [List.take_length] at h; exact h
                  have HS4 : Hid (rinnerS s (lv + 1) i true = if bt s (whS s i2) = 58 then (match rvalS s lv (whS s (whS s i2 + 1)) with | .error e => .error e | .ok (j, i3) => seqS s (rvalS s lv) true f false (whS s i3) (keys ++ [key]) (l ++ [j])) else .error 300) := by show _ = _; rw [HS3.out, hmem]; rfl
                  clear hmem HS3 HQ2
                  go_wp2_with fail

                  refine (rwhite_any g s i2 0 _ hs hi2 HI4.out.rs).mono ?_
                  rintro e w5 ⟨rfl, hp, hb⟩
                  have hwk5 := whS_le s i2 hi2
                  have HI5 := Lib.hid (HI4.out.next hord.out hp hb hwk5.2)
                  clear hp hb q4 b5 HI4
                  obtain ⟨k2, hk2⟩ : ∃ z, z = whS s i2 := ⟨_, rfl⟩
                  rw [← hk2] at HI5 HS4 hwk5
                  have HK2 := Lib.hid hk2
                  clear hk2
                  go_wp2_with fail
                  cases hw : wordB s k2 ⟨#[58]⟩ with
                  | false =>
                    have h58 : bt s k2 ≠ 58 := by
                      intro h58
                      rw [word_one] at hw
                      exact absurd ⟨bt_in (by omega), h58⟩ (of_decide_eq_false hw)
                    have HE : Hid (rinnerS s (lv + 1) i true = .error 300) := by show _ = _; rw [HS4.out, if_neg h58]
                    have HW := Lib.hid hw
                    clear hw h58
                    refine (rword_no g s _ _ 0 _ hs (by decide) HI5.out.rs hwk5.2 HW.out).mono ?_
                    rintro e w6 ⟨rfl, hp, hb⟩
                    have HI6 := Lib.hid (HI5.out.next hord.out hp hb hwk5.2)
                    clear hp hb HI5
                    go_wp2_with fail
                    refine (rfail_first g s _ 300 _ HI6.out.rs).mono ?_
                    rintro e w7 ⟨rfl, hp, hb⟩
                    have HI7 := Lib.hid (HI6.out.next hord.out hp hb hwk5.2)
                    clear hp hb HI6
                    obtain ⟨A1, c1, hLf⟩ := own_form HI7.out.ownL
                    subst hLf
                    obtain ⟨b0, b1, b2, b3, b4, b5⟩ := HI7.out.out.cell
                    obtain ⟨r0, r1, r2, r3, r4, r5⟩ := HI7.out.res.cell
                    have f0 := HI7.out.res.frozen 0
                    have f1 := HI7.out.res.frozen 1
                    have f2 := HI7.out.res.frozen 2
                    have f3 := HI7.out.res.frozen 3
                    have f4 := HI7.out.res.frozen 4
                    have f5 := HI7.out.res.frozen 5
                    simp only [if_true, Bool.false_eq_true, if_false] at b0
                    go_wp2_with fail
                    refine ret_json Tryd.results34 rfl HI7.out.res fun W ho hJ => ?_
                    exact RJPost.no HE.out (by decide) HI7.out.kle ⟨rfl, HI7.out.rs.only ho (by omega), HI7.out.but.only ho (Nat.le_refl _)⟩ (HI7.out.rep_end.only ho (by omega) (by omega))
                  | true =>
                    have hq2 : k2 < s.size ∧ bt s k2 = 58 := by rw [word_one] at hw; exact of_decide_eq_true hw
                    have HS5 : Hid (rinnerS s (lv + 1) i true = match rvalS s lv (whS s (k2 + 1)) with | .error e => .error e | .ok (j, i3) => seqS s (rvalS s lv) true f false (whS s i3) (keys ++ [key]) (l ++ [j])) := by show _ = _; rw [HS4.out, if_pos hq2.2]
                    have HW := Lib.hid hw
                    have hkl2' := hq2.1
                    clear hw hq2 HS4
                    refine (rword_yes g s _ _ 0 _ hs (by decide) HI5.out.rs hwk5.2 HW.out).mono ?_
                    rintro e w6 ⟨rfl, hp, hb⟩
                    have HI6 := Lib.hid (HI5.out.next hord.out hp hb (show k2 + 1 ≤ s.size from hkl2'))
                    clear hp hb HI5
                    go_wp2_with fail
                    have hwk6 := whS_le s (k2 + 1) hkl2'
                    refine (rwhite_any g s (k2 + 1) 0 _ hs hkl2' (by exact HI6.out.rs)).mono ?_
                    rintro e w7 ⟨rfl, hp, hb⟩
                    have HI7 := Lib.hid (HI6.out.next hord.out hp hb hwk6.2)
                    clear hp hb HI6
                    obtain ⟨k3, hk3⟩ : ∃ z, z = whS s (k2 + 1) := ⟨_, rfl⟩
                    rw [← hk3] at HI7 HS5 hwk6
                    have HK3 := Lib.hid hk3
                    clear hk3
                    go_wp2_with fail
                    refine (HV.out g s k3 D _ hs0 hwk6.2 HI7.out.rs (by have := HD.out; omega)).mono ?_
                    intro e w8 hx
                    obtain ⟨a, b, c, d, Lx, Kx, x, j, code, hj, ⟨rfl, hp, hb⟩, hr, hm⟩ := hx
                    obtain ⟨z1, z2, z3, z4, A1, l1, m1, A3, l3, m3, rfl, rfl, rfl, rfl, rfl, rfl⟩ := rep_form hr
                    have HM := Lib.hid hm
                    have HI8 := Lib.hid (HI7.out.next hord.out hp hb hj)
                    have e1 := HI7.out.ble
                    have hb2 : Hid (w7.heap.size ≤ w8.heap.size) := hb.size
                    have HX : Hid (JRep w8 (fun b => w7.heap.size ≤ b) [.int .i64 z1, .bool z2, .int .i64 z3, .string z4, .slice A1 l1 m1, .slice A3 l3 m3] x) := hr
                    have e2 : Hid (∀ b, Lv.ownBlock = some b → b < w7.heap.size) := fun b e => (World.ownsRow.lt HI7.out.ownL b e).2
                    have e3 : Hid (∀ b, (Value.slice A2 keys.length c2).ownBlock = some b → b < w7.heap.size) := fun b e => (World.ownsRow.lt HI7.out.ownK b e).2
                    have q5 : ∀ o, (w8.alloc o).cell? ⟨w.heap.size + 1, 5, none⟩ = some (.slice A2 keys.length c2) := fun o => (HI8.out.out.alloc o).cell.2.2.2.2.2
                    clear hp hb hr hm
                    go_wp2_with (at_builtin; refine wpList_append_lies _ rfl _ _ 23 rfl (w.heap.size + 2) 9 i1 _ 1 16 Tryd.underlying23 hinfo1 hy0 hy1 hy2 rfl (by omega) (.slice A2 keys.length c2) keys.length _ rfl (by exact World.ownsRow.alloc (World.ownsRow.alloc HI8.out.ownK _) _) ⟨w8.heap.size + 1, 0, none⟩ 1 1 [.string key] rfl rfl (World.news_of_block (cs := #[.string key]) (t := 9) (fr := (0, 0)) ?cn) (by simp [Value.oneCell']) (by omega) (by unfold maxLen; omega) (by omega) (by have := HI8.out.ble; simp; omega) (w8.heap.size + 1 + 1) (by simp) ?_)
                    case cn =>
                      have h := heap_alloc_new (w8.alloc (.cells #[.int .i64 z1, .bool z2, .int .i64 z3, .string z4, .slice A1 l1 m1, .slice A3 l3 m3] 25)) (.cells #[.string key] 9)
                      rw [World.size_alloc] at h
                      exact h
                    intro gg cap w9 hown9 hgr9 hat hlt
                    have hKne : Hid (∀ b, b < w.heap.size + 2 ∨ w7.heap.size ≤ b → some b ≠ (Value.slice A2 keys.length c2).ownBlock) := fun b hb e => by
                      have := (World.ownsRow.lt HI8.out.ownK _ e.symm).1
                      have := e3.out b e.symm
                      omega
                    have J9 := (HI8.out.out.alloc (.cells #[.int .i64 z1, .bool z2, .int .i64 z3, .string z4, .slice A1 l1 m1, .slice A3 l3 m3] 25)).grown2 hgr9 (hKne.out _ (by omega))
                    have hw78 := hb2.out
                    have JJ := (JB.new w8 (.int .i64 z1) (.bool z2) (.int .i64 z3) (.string z4) (.slice A1 l1 m1) (.slice A3 l3 m3)).grown2 hgr9 (hKne.out _ (by omega))
                    have hga : Hid (Below w8.heap.size w8 ((w8.alloc (.cells #[.int .i64 z1, .bool z2, .int .i64 z3, .string z4, .slice A1 l1 m1, .slice A3 l3 m3] 25)).alloc (.cells #[.string key] 9))) := ((Below.refl _ _).alloc (Nat.le_refl _) _).alloc (by simp) _
                    have HI9 := Lib.hid (HI8.out.addKey (t := key) hord.out (by omega) (by omega) hga.out hown9 hgr9 (fun j hj => by rcases hat with h | h <;> injection hj with hj <;> simp only at hj; exact .inl (by rw [← hj]; exact h); exact .inr (by omega)))
                    have HX9 : Hid (JRep (w9.setCell ⟨w.heap.size + 1, 5, none⟩ (.slice (some ⟨gg, 0, none⟩) (keys.length + 1) cap)) (fun b => w.heap.size + 2 ≤ b ∧ Lv.ownBlock ≠ some b ∧ (Value.slice (some ⟨gg, 0, none⟩) (keys.length + 1) cap).ownBlock ≠ some b) [.int .i64 z1, .bool z2, .int .i64 z3, .string z4, .slice A1 l1 m1, .slice A3 l3 m3] x) :=
                      HX.out.mono fun b hb1 hlt8 => by
                        have ho : Only (w.heap.size + 1) w9 (w9.setCell ⟨w.heap.size + 1, 5, none⟩ (.slice (some ⟨gg, 0, none⟩) (keys.length + 1) cap)) := (Only.refl _ w9).set 5 _
                        refine ⟨⟨by omega, fun e => ?_, fun e => ?_⟩, ?_⟩
                        · have := e2.out b e; omega
                        · injection e with e
                          simp only at e
                          rcases hat with h | h
                          · exact hKne.out b (.inr hb1) (by rw [h, e])
                          · omega
                        · refine (ho.block b (by omega)).trans ((hgr9.block b (by have := hga.out.size; omega) (hKne.out b (.inr hb1))).trans (hga.out.block b hlt8))
                    have hsz9 := hgr9.size
                    simp only [World.size_alloc] at hsz9
                    clear hown9 hgr9 hat hlt q5 HI8 HX hga
                    obtain ⟨Kv2, hKv2⟩ : ∃ z, z = Value.slice (some ⟨gg, 0, none⟩) (keys.length + 1) cap := ⟨_, rfl⟩
                    rw [← hKv2] at HI9 HX9
                    have HKV := Lib.hid hKv2
                    clear hKv2
                    have q4 := J9.cell.2.2.2.2.1
                    have q5 := J9.frozen 5
                    have q6 := J9.cell.2.2.2.2.2
                    obtain ⟨x0, x1, x2, x3, x4, x5⟩ := JJ.cell
                    have nb : ¬ w8.heap.size = w.heap.size + 1 := by omega
                    clear J9 JJ
                    go_wp2_with (at_builtin; refine wpList_append_lies _ rfl _ _ 22 rfl (w.heap.size + 2) 25 i0 _ 6 88 Tryd.underlying22 hinfo hz0 hz1 hz2 rfl (by omega) Lv l.length css.flatten rfl (by rw [← HKV.out]; exact World.ownsRow.alloc HI9.out.ownL _) ⟨w9.heap.size, 0, none⟩ 1 1 [.int .i64 z1, .bool z2, .int .i64 z3, .string z4, .slice A1 l1 m1, .slice A3 l3 m3] rfl rfl (World.news_of_block (cs := #[.int .i64 z1, .bool z2, .int .i64 z3, .string z4, .slice A1 l1 m1, .slice A3 l3 m3]) (t := 25) (fr := (0, 0)) ?cn2) (by simp [Value.oneCell']) (by omega) (by unfold maxLen; omega) (by omega) (by simp; omega) (w9.heap.size + 1) (by simp) ?_)
                    case cn2 =>
                      have h := heap_alloc_new (w9.setCell ⟨w.heap.size + 1, 5, none⟩ (.slice (some ⟨gg, 0, none⟩) (keys.length + 1) cap)) (.cells #[.int .i64 z1, .bool z2, .int .i64 z3, .string z4, .slice A1 l1 m1, .slice A3 l3 m3] 25)
                      rw [World.size_setCell] at h
                      exact h
                    rw [← HKV.out]
                    intro gg2 cap2 w10 hown10 hgr10 hat hlt
                    have J10 := HI9.out.out.grown2 hgr10 (HI9.out.neL hord.out.2.2.2)
                    have q10 := J10.cell.2.2.2.2.1
                    have f10 := J10.frozen 4
                    have HI10 := Lib.hid (HI9.out.addMember hord.out (by omega) (by omega) ((Below.refl _ _).alloc (Nat.le_refl _) (.cells #[.int .i64 z1, .bool z2, .int .i64 z3, .string z4, .slice A1 l1 m1, .slice A3 l3 m3] 25)) HX9.out rfl hown10 hgr10 (fun j hj => by rcases hat with h | h <;> injection hj with hj <;> simp only at hj; exact .inl (by rw [← hj]; exact h); exact .inr (by rw [World.size_setCell]; omega)))
                    have hwk10 := whS_le s j hj
                    clear hat hown10 hgr10 hlt J10 q4 q5 q6 x0 x1 x2 x3 x4 x5 HX9 HI9 HI7
                    go_wp2_with fail
                    refine (rwhite_any g s j code _ hs hj HI10.out.rs).mono ?_
                    rintro e w11 ⟨rfl, hp, hb⟩
                    have HI11 := Lib.hid (HI10.out.next hord.out hp hb hwk10.2)
                    clear hp hb HI10 q10 f10
                    have q11 := HI11.out.rs.c2
                    cases hval : rvalS s lv k3 with
                    | error n =>
                      have hm2 : code = n ∧ n ≠ 0 := by have h := HM.out; rw [hval] at h; exact h
                      have HE : Hid (rinnerS s (lv + 1) i true = .error code) := by show _ = _; rw [HS5.out, hm2.1, hval]
                      have hcb : (code == 0) = false := beq_eq_false_iff_ne.2 (by rw [hm2.1]; exact hm2.2)
                      have HC : Hid (code ≠ 0) := by rw [hm2.1]; exact hm2.2
                      clear hval hm2 HM
                      go_wp2_with fail
                      go_roundg 0
                      case measure => have := HN.out; omega
                      case rel => exact ⟨_, code, _, _, _, _, _, .inr ⟨rfl, HC.out, HE.out⟩, HI11.out⟩
                    | ok y =>
                      obtain ⟨y, i3⟩ := y
                      have hm2 : code = 0 ∧ x = y ∧ j = i3 := by have h := HM.out; rw [hval] at h; exact h
                      obtain ⟨rfl, rfl, rfl⟩ := hm2
                      have HS6 : Hid (rinnerS s (lv + 1) i true = seqS s (rvalS s lv) true f false (whS s j) (keys ++ [key]) (l ++ [x])) := by show _ = _; rw [HS5.out, hval]
                      have hin := rvalS_in s lv k3 x j hwk6.2 hval
                      clear hval HM HS5
                      have hk1j : k < j := by omega
                      obtain ⟨f, rfl, hf2⟩ := seq_more (s := s) (f := f) (k := j) (by omega) hj
                      have HS7 : Hid (rinnerS s (lv + 1) i true = if bt s (whS s j) = 125 then .ok (.mk 5 false 0 ⟨#[]⟩ (l ++ [x]) (keys ++ [key]), whS s j + 1) else if bt s (whS s j) != 44 then .error 300 else memS s (rvalS s lv) true f (whS s (whS s j + 1)) (keys ++ [key]) (l ++ [x])) := by show _ = _; rw [HS6.out, seq_eq]; rfl
                      go_wp2_with fail
                      cases hw : wordB s (whS s j) ⟨#[125]⟩ with
                      | true =>
                        have hq2 : whS s j < s.size ∧ bt s (whS s j) = 125 := by rw [word_one] at hw; exact of_decide_eq_true hw
                        have HE : Hid (rinnerS s (lv + 1) i true = .ok (.mk 5 false 0 ⟨#[]⟩ (l ++ [x]) (keys ++ [key]), whS s j + 1)) := by show _ = _; rw [HS7.out, if_pos hq2.2]
                        have HW := Lib.hid hw
                        clear hw
                        refine (rword_yes g s _ _ 0 _ hs (by decide) HI11.out.rs hwk10.2 HW.out).mono ?_
                        rintro e w12 ⟨rfl, hp, hb⟩
                        have HI12 := Lib.hid (HI11.out.next hord.out hp hb (show whS s j + 1 ≤ s.size from hq2.1))
                        clear hp hb HI11 q11
                        have hKf := HKV.out
                        clear HKV
                        subst hKf
                        obtain ⟨b0, b1, b2, b3, b4, b5⟩ := HI12.out.out.cell
                        obtain ⟨r0, r1, r2, r3, r4, r5⟩ := HI12.out.res.cell
                        have f0 := HI12.out.res.frozen 0
                        have f1 := HI12.out.res.frozen 1
                        have f2 := HI12.out.res.frozen 2
                        have f3 := HI12.out.res.frozen 3
                        have f4 := HI12.out.res.frozen 4
                        have f5 := HI12.out.res.frozen 5
                        simp only [if_true, Bool.false_eq_true, if_false] at b0
                        go_wp2_with fail
                        refine ret_json Tryd.results34 rfl HI12.out.res fun W ho hJ => ?_
                        exact RJPost.yes HE.out HI12.out.kle ⟨rfl, HI12.out.rs.only ho (by omega), HI12.out.but.only ho (Nat.le_refl _)⟩ (HI12.out.rep_end.only ho (by omega) (by omega))
                      | false =>
                        have h125 : bt s (whS s j) ≠ 125 := by
                          intro h125
                          rw [word_one] at hw
                          exact absurd ⟨bt_in (by omega), h125⟩ (of_decide_eq_false hw)
                        have HW := Lib.hid hw
                        clear hw
                        refine (rword_no g s _ _ 0 _ hs (by decide) HI11.out.rs hwk10.2 HW.out).mono ?_
                        rintro e w12 ⟨rfl, hp, hb⟩
                        have HI12 := Lib.hid (HI11.out.next hord.out hp hb hwk10.2)
                        have HS8 : Hid (rinnerS s (lv + 1) i true = if bt s (whS s j) != 44 then .error 300 else memS s (rvalS s lv) true f (whS s (whS s j + 1)) (keys ++ [key]) (l ++ [x])) := by show _ = _; rw [HS7.out, if_neg h125]
                        clear hp hb HI11 q11 h125
                        have q12 := HI12.out.rs.c2
                        go_wp2_with fail
                        cases hw : wordB s (whS s j) ⟨#[44]⟩ with
                        | true =>
                          have hq2 : whS s j < s.size ∧ bt s (whS s j) = 44 := by rw [word_one] at hw; exact of_decide_eq_true hw
                          have HS9 : Hid (rinnerS s (lv + 1) i true = memS s (rvalS s lv) true f (whS s (whS s j + 1)) (keys ++ [key]) (l ++ [x])) := by show _ = _; rw [HS8.out, if_neg (by rw [hq2.2]; decide)]
                          have HW2 := Lib.hid hw
                          clear hw
                          refine (rword_yes g s _ _ 0 _ hs (by decide) HI12.out.rs hwk10.2 HW2.out).mono ?_
                          rintro e w13 ⟨rfl, hp, hb⟩
                          have HI13 := Lib.hid (HI12.out.next hord.out hp hb (show whS s j + 1 ≤ s.size from hq2.1))
                          clear hp hb q12 HI12
                          go_wp2_with fail
                          go_roundg (s.size + 1 - (whS s j + 1))
                          case measure => have := HN.out; omega
                          case rel => exact ⟨whS s j + 1, 0, _, _, _, _, _, .inl ⟨rfl, rfl, by rw [List.length_append]; simp; omega, by rw [List.length_append]; simp; omega, f, by omega, HS9.out⟩, HI13.out⟩
                        | false =>
                          have HE : Hid (rinnerS s (lv + 1) i true = .error 300) := by
                            show _ = _
                            rw [HS8.out, if_pos]
                            rw [bne_iff_ne]
                            intro h44
                            rw [word_one] at hw
                            exact absurd ⟨bt_in (by omega), h44⟩ (of_decide_eq_false hw)
                          have HW2 := Lib.hid hw
                          clear hw
                          refine (rword_no g s _ _ 0 _ hs (by decide) HI12.out.rs hwk10.2 HW2.out).mono ?_
                          rintro e w13 ⟨rfl, hp, hb⟩
                          have HI13 := Lib.hid (HI12.out.next hord.out hp hb hwk10.2)
                          clear hp hb q12 HI12
                          go_wp2_with fail
                          refine (rfail_first g s _ 300 _ HI13.out.rs).mono ?_
                          rintro e w14 ⟨rfl, hp, hb⟩
                          have HI14 := Lib.hid (HI13.out.next hord.out hp hb hwk10.2)
                          clear hp hb HI13
                          go_wp2_with fail
                          go_roundg 0
                          case measure => have := HN.out; omega
                          case rel => exact ⟨_, 300, _, _, _, _, _, .inr ⟨rfl, by decide, HE.out⟩, HI14.out⟩

end Go.Proofs.YtbhnfehpbbibbaaDoor
