/- The statement JsonParses, walked: it answers true for every text and every world that holds the library's table. JsonParses holds: for every text (a Go string of at most 140737488351232 bytes, the form's own reach) the statement answers true, and the text reads as it did. Condition: the library's three tables hold what the program's text lays in them (the card ties that). -/
import Derived.Test.YtbhnfehpbbibbaaDoorM24
import Derived.Test.YtbhnfehpbbibbaaDoorCards
import Derived.Test.YtbhnfehpbbibbaaDoorTie
import Derived.WalkKit
import Derived.ProofKit
import Derived.OpenShut
import Derived.Lay
import Derived.Deep.DeepHandedRow
import Derived.Lib.LaidTab
import Derived.LaidSub

namespace Go.Proofs.YtbhnfehpbbibbaaDoor
open Go.RowKit

/-- what may have been written over: the row that v is, element by element -/
structure Sp (T : TypeId) (v : Value) (w w' : World) : Prop where
  os : w'.os = w.os
  tape : w'.tape = w.tape
  output : w'.output = w.output
  size : w'.heap.size = w.heap.size
  block : ∀ k, v.ownBlock ≠ some k → w'.heap[k]? = w.heap[k]?
  row : ∀ k, v.ownBlock = some k → ∀ cs, w.heap[k]? = some (.cells cs T (0, 0)) → ∃ cs', w'.heap[k]? = some (.cells cs' T (0, 0)) ∧ cs'.size = cs.size
theorem Sp.refl (T : TypeId) (v : Value) (w : World) : Sp T v w w := ⟨rfl, rfl, rfl, rfl, fun _ _ => rfl, fun _ _ cs h => ⟨cs, h, rfl⟩⟩
theorem Sp.step {T : TypeId} {w wz : World} {base sz n : Nat} {v : Value} {xs : List Value} (ho : w.ownsRow base T sz v n xs) (hs : Sp T v w wz) {m : Nat} (hm : m < n) (hsz : 0 < sz) :
    ∃ g cap u, v = .slice (some ⟨g, 0, none⟩) n cap ∧ wz.cell? ⟨g, m * sz, none⟩ = some u ∧ wz.frozen? ⟨g, m * sz, none⟩ = false ∧ ∀ x, Sp T v w (wz.setCell ⟨g, m * sz, none⟩ x) := by
  obtain ⟨h1, h2⟩ := ho
  rcases h2 with ⟨_, h2⟩ | ⟨g, cap, cur, rfl, hg, hh, hn, hc, hz, ht⟩
  · omega
  · obtain ⟨cs', h3, h4⟩ := hs.row g rfl cur hh
    have hlt : m * sz < cs'.size := by
      rw [h4, hz]
      exact Nat.lt_of_lt_of_le (Nat.mul_lt_mul_of_pos_right hm hsz) (Nat.mul_le_mul_right sz hn)
    refine ⟨g, cap, cs'[m * sz], rfl, ?_, ?_, fun x => ⟨hs.os, hs.tape, hs.output, by simpa [World.setCell] using hs.size, fun k hk => ?_, fun k hk cs hcs => ?_⟩⟩
    · simp [World.cell?, h3, hlt]
    · simp [World.frozen?, h3]
    · exact (Below.heap_setCell _ _ _ _ (fun e => hk (by rw [e]; rfl))).trans (hs.block k hk)
    · injection hk with hk
      simp only at hk
      subst hk
      rw [hh] at hcs
      injection hcs with hcs
      injection hcs with hcs _ _
      subst hcs
      exact ⟨_, blk_set h3 _ x, by rw [Array.size_setIfInBounds]; exact h4⟩
theorem Sp.jb {T : TypeId} {v : Value} {w w' : World} {R : Nat} {a b c d e f : Value} (h : Sp T v w w') (hj : JB w R a b c d e f) (hne : v.ownBlock ≠ some R) : JB w' R a b c d e f := (h.block R hne).trans hj
theorem Sp.below {T : TypeId} {v : Value} {a w w' : World} {B : Nat} (h : Sp T v w w') (hb : Below B a w) (hv : ∀ k, v.ownBlock = some k → B ≤ k) : Below B a w' :=
  ⟨h.os.trans hb.os, h.tape.trans hb.tape, h.output.trans hb.output, by rw [h.size]; exact hb.size, fun k hk => (h.block k (fun e => by have := hv k e; omega)).trans (hb.block k hk)⟩
theorem Sp.rep {T : TypeId} {v : Value} {w w' : World} {base : Nat} {cs : List Value} {x : J} (h : Sp T v w w') (hr : JRep w (fun k => base ≤ k) cs x) (hv : ∀ k, v.ownBlock = some k → k < base) : JRep w' (fun k => base ≤ k) cs x :=
  hr.mono fun b hb _ => ⟨hb, h.block b (fun e => by have := hv b e; omega)⟩
theorem Sp.own {T T2 : TypeId} {v v2 : Value} {w w' : World} {base sz n : Nat} {xs : List Value} (h : Sp T v w w') (ho : w.ownsRow base T2 sz v2 n xs) (hne : ∀ k, v2.ownBlock = some k → v.ownBlock ≠ some k) : w'.ownsRow base T2 sz v2 n xs :=
  World.ownsRow.kept ho (row := v.ownBlock) ⟨h.os, h.tape, h.output, by rw [h.size]; exact Nat.le_refl _, fun k _ hk => h.block k (fun e => hk e.symm)⟩ (by
    cases e : v2.ownBlock with
    | none => exact .inl rfl
    | some k => exact .inr (fun e2 => hne k e e2.symm))

set_option maxRecDepth 100000 in
set_option maxHeartbeats 8000000 in
theorem parses_walk (s : ByteArray) (w : World) (hs : s.size ≤ 140737488351232) (htab : Tab w.heap.size w) :
    Calls Tryd.prog 3 #[.string s] w fun e w' => e = .returned (.bool true) ∧ Below w.heap.size w w' := by
  have HT := Lib.hid htab
  have HS := Lib.hid hs
  have HSM := Lib.hid (pX_sm s)
  clear htab hs
  go_enter Tryd.func3, Tryd.ntmps3
  go_wp2_with fail
  refine (parse2 s w HS.out).mono ?_
  rintro e w1 ⟨a, b, c, d, f, g, rfl, hb1, hr1, ho1⟩
  obtain ⟨z1, z2, z3, z4, A1, l1, m1, A2, l2, m2, rfl, rfl, rfl, rfl, rfl, rfl⟩ := rep_form hr1
  obtain ⟨Lv, Kv, nL, xL, nK, xK, hLv, hKv, hoL, hoK⟩ := ho1
  simp at hLv hKv
  subst hLv hKv
  obtain ⟨A', c', hA'⟩ := own_form hoL
  injection hA' with hA1 hA2 hA3
  subst hA2
  obtain ⟨A'', c'', hA''⟩ := own_form hoK
  injection hA'' with hB1 hB2 hB3
  subst hB2
  clear hA1 hA3 hB1 hB3
  obtain ⟨C, hC⟩ : ∃ C, C = pE s := ⟨_, rfl⟩
  rw [← hC]
  have HC := Lib.hid hC
  clear hC
  have hbx : Below w1.heap.size w1 (w1.alloc (.cells #[.int .i64 z1, .bool z2, .int .i64 z3, .string z4, .slice A1 l1 m1, .slice A2 l2 m2] 25)) := (Below.refl _ _).alloc (Nat.le_refl _) _
  have HJ1 := Lib.hid (JB.new w1 (.int .i64 z1) (.bool z2) (.int .i64 z3) (.string z4) (.slice A1 l1 m1) (.slice A2 l2 m2))
  have HB1 := Lib.hid (Below.trans2 hb1 hbx)
  have HR1 := Lib.hid (hr1.stays hbx)
  have HL1 := Lib.hid (own_below hoL hbx)
  have HK1 := Lib.hid (own_below hoK hbx)
  have hLt : Hid (∀ k, (Value.slice A1 l1 m1).ownBlock = some k → w.heap.size ≤ k ∧ k < w1.heap.size) := World.ownsRow.lt hoL
  have hKt : Hid (∀ k, (Value.slice A2 l2 m2).ownBlock = some k → w.heap.size ≤ k ∧ k < w1.heap.size) := World.ownsRow.lt hoK
  have hz1 : w.heap.size ≤ w1.heap.size := hb1.size
  have hlen : Hid (l1 ≤ 65536 ∧ l2 ≤ 65536) := by
    have hsm := HSM.out
    generalize pX s = x at hsm hr1
    cases hsm with
    | mk q1 q2 _ _ _ _ =>
      obtain ⟨_, _, _, _, css, B1, d1, B2, d2, e1, e2, _⟩ := rep_parts hr1
      injection e1 with _ e1 _
      injection e2 with _ e2 _
      exact ⟨by omega, by omega⟩
  clear hb1 hr1 hoL hoK hbx
  go_wp2_with fail
  generalize w1.alloc (.cells #[.int .i64 z1, .bool z2, .int .i64 z3, .string z4, .slice A1 l1 m1, .slice A2 l2 m2] 25) = W1 at HJ1 HB1 HR1 HL1 HK1 ⊢
  have hz2 : w1.heap.size < W1.heap.size := HJ1.out.lt
  refine (parse2 s W1 HS.out).mono ?_
  rintro e w2 ⟨a, b, c, d, f, g, rfl, hb2, hr2, _⟩
  obtain ⟨y1, y2, y3, y4, B1, j1, n1, B2, j2, n2, rfl, rfl, rfl, rfl, rfl, rfl⟩ := rep_form hr2
  rw [← HC.out]
  have hby : Below w2.heap.size w2 (w2.alloc (.cells #[.int .i64 y1, .bool y2, .int .i64 y3, .string y4, .slice B1 j1 n1, .slice B2 j2 n2] 25)) := (Below.refl _ _).alloc (Nat.le_refl _) _
  have hbx := Below.trans2 hb2 hby
  have HV2 := Lib.hid (JB.new w2 (.int .i64 y1) (.bool y2) (.int .i64 y3) (.string y4) (.slice B1 j1 n1) (.slice B2 j2 n2))
  have HVR2 := Lib.hid (hr2.stays hby)
  have HJ2 := Lib.hid (HJ1.out.below hbx)
  have HB2 := Lib.hid (Below.trans2 HB1.out hbx)
  have HR2 := Lib.hid (HR1.out.stays hbx)
  have HL2 := Lib.hid (own_below HL1.out hbx)
  have HK2 := Lib.hid (own_below HK1.out hbx)
  have hz3 : W1.heap.size ≤ w2.heap.size := hb2.size
  clear hb2 hr2 hby hbx HJ1 HB1 HR1 HL1 HK1
  go_wp2_with fail
  generalize w2.alloc (.cells #[.int .i64 y1, .bool y2, .int .i64 y3, .string y4, .slice B1 j1 n1, .slice B2 j2 n2] 25) = W2 at HV2 HVR2 HJ2 HB2 HR2 HL2 HK2 ⊢
  have hz4 : w2.heap.size < W2.heap.size := HV2.out.lt
  refine (rparse2 s W2 HS.out).mono ?_
  rintro e w3 ⟨a, b, c, d, f, g, rfl, hb3, hr3⟩
  obtain ⟨x1, x2, x3, x4, E1, q1, o1, E2, q2, o2, rfl, rfl, rfl, rfl, rfl, rfl⟩ := rep_form hr3
  rw [← HC.out]
  have hby : Below w3.heap.size w3 (w3.alloc (.cells #[.int .i64 x1, .bool x2, .int .i64 x3, .string x4, .slice E1 q1 o1, .slice E2 q2 o2] 25)) := (Below.refl _ _).alloc (Nat.le_refl _) _
  have hbx := Below.trans2 hb3 hby
  have HU3 := Lib.hid (JB.new w3 (.int .i64 x1) (.bool x2) (.int .i64 x3) (.string x4) (.slice E1 q1 o1) (.slice E2 q2 o2))
  have HUR3 := Lib.hid (hr3.stays hby)
  have HV3 := Lib.hid (HV2.out.below hbx)
  have HVR3 := Lib.hid (HVR2.out.stays hbx)
  have HJ3 := Lib.hid (HJ2.out.below hbx)
  have HB3 := Lib.hid (Below.trans2 HB2.out hbx)
  have HR3 := Lib.hid (HR2.out.stays hbx)
  have HL3 := Lib.hid (own_below HL2.out hbx)
  have HK3 := Lib.hid (own_below HK2.out hbx)
  have hz5 : W2.heap.size ≤ w3.heap.size := hb3.size
  have hj3 := HJ2.out.below hb3
  have k0 : ∀ o, (w3.alloc o).cell? ⟨w1.heap.size, 0, none⟩ = some (.int .i64 z1) := fun o => (hj3.alloc o).cell.1
  have k1 : ∀ o, (w3.alloc o).cell? ⟨w1.heap.size, 1, none⟩ = some (.bool z2) := fun o => (hj3.alloc o).cell.2.1
  have k2 : ∀ o, (w3.alloc o).cell? ⟨w1.heap.size, 2, none⟩ = some (.int .i64 z3) := fun o => (hj3.alloc o).cell.2.2.1
  have k3 : ∀ o, (w3.alloc o).cell? ⟨w1.heap.size, 3, none⟩ = some (.string z4) := fun o => (hj3.alloc o).cell.2.2.2.1
  have k4 : ∀ o, (w3.alloc o).cell? ⟨w1.heap.size, 4, none⟩ = some (.slice A1 l1 m1) := fun o => (hj3.alloc o).cell.2.2.2.2.1
  have k5 : ∀ o, (w3.alloc o).cell? ⟨w1.heap.size, 5, none⟩ = some (.slice A2 l2 m2) := fun o => (hj3.alloc o).cell.2.2.2.2.2
  clear hb3 hr3 hby hbx HV2 HVR2 HJ2 HB2 HR2 HL2 HK2 hj3
  go_wp2_with fail
  clear k0 k1 k2 k3 k4 k5
  generalize w3.alloc (.cells #[.int .i64 x1, .bool x2, .int .i64 x3, .string x4, .slice E1 q1 o1, .slice E2 q2 o2] 25) = W3 at HU3 HUR3 HV3 HVR3 HJ3 HB3 HR3 HL3 HK3 ⊢
  have hz6 : w3.heap.size < W3.heap.size := HU3.out.lt
  refine (same_any 65536 (by omega) HSM.out _ _ W3 _ _ _ _ _ _ _ _ _ _ _ _ HR3.out HUR3.out).mono ?_
  rintro e w4 ⟨rfl, hb4⟩
  have HU4 := Lib.hid (HU3.out.below hb4)
  have HUR4 := Lib.hid (HUR3.out.stays hb4)
  have HV4 := Lib.hid (HV3.out.below hb4)
  have HVR4 := Lib.hid (HVR3.out.stays hb4)
  have HJ4 := Lib.hid (HJ3.out.below hb4)
  have HB4 := Lib.hid (Below.trans2 HB3.out hb4)
  have HL4 := Lib.hid (own_below HL3.out hb4)
  have HK4 := Lib.hid (own_below HK3.out hb4)
  clear hb4 HU3 HUR3 HV3 HVR3 HJ3 HB3 HR3 HL3 HK3
  go_wp2_with (go_at_call 8; refine (num_any _ _).mono ?_; rintro e w9 ⟨rfl, rfl⟩)
  have hlen2 := hlen.out
  go_loopw [9] (fun v9 wq => ∃ (m : Nat) (wz : World), v9 = .int .i64 m ∧ m ≤ l1 ∧ wz = wq ∧ Hid (Sp 25 (.slice A1 l1 m1) w4 wz)) (fun v9 _ => l1 - (intOf v9).toNat)
  case atStart => exact ⟨0, _, rfl, Nat.zero_le _, rfl, Sp.refl _ _ _⟩
  case round =>
    obtain ⟨m, wz, rfl, hm, hwz, H⟩ := hrel
    subst hwz
    have hjz := H.out.jb HJ4.out (fun e => by have := (hLt.out _ e).2; omega)
    have HJZ := Lib.hid hjz
    have k4 := hjz.cell.2.2.2.2.1
    clear hjz
    by_cases hml : m < l1
    case pos =>
      obtain ⟨gL, cL, uL, hvL, hcL, hfL, hSp⟩ := Sp.step HL4.out H.out hml (by decide)
      injection hvL with hA _ _
      subst hA
      have HN := Lib.hid (hSp (.int .i64 77))
      clear hSp
      go_wp2_with fail
      go_roundw
      case rel => exact ⟨m + 1, _, by go_num, by omega, rfl, HN.out⟩
      case measure => simp [intOf]; omega
    case neg =>
      obtain rfl : m = l1 := by omega
      have HKz := Lib.hid (H.out.own HK4.out (own_ne_types HK4.out HL4.out (by decide)))
      have HBz := Lib.hid (H.out.below HB4.out (fun k hk => (hLt.out k hk).1))
      have HVz := Lib.hid (H.out.jb HV4.out (fun e => by have := (hLt.out _ e).2; omega))
      have HVRz := Lib.hid (H.out.rep HVR4.out (fun k hk => by have := (hLt.out k hk).2; omega))
      have HUz := Lib.hid (H.out.jb HU4.out (fun e => by have := (hLt.out _ e).2; omega))
      have HURz := Lib.hid (H.out.rep HUR4.out (fun k hk => by have := (hLt.out k hk).2; omega))
      clear HU4 HUR4 HV4 HVR4 HJ4 HB4 HL4 HK4 H
      go_wp2_with fail
      go_loopw [10] (fun v10 wq => ∃ (m : Nat) (wy : World), v10 = .int .i64 m ∧ m ≤ l2 ∧ wy = wq ∧ Hid (Sp 9 (.slice A2 l2 m2) wz wy)) (fun v10 _ => l2 - (intOf v10).toNat)
      case atStart => exact ⟨0, _, rfl, Nat.zero_le _, rfl, Sp.refl _ _ _⟩
      case round =>
        obtain ⟨m, wy, rfl, hm, hwy, H⟩ := hrel
        subst hwy
        have hjz := H.out.jb HJZ.out (fun e => by have := (hKt.out _ e).2; omega)
        have k5 := hjz.cell.2.2.2.2.2
        clear hjz k4
        by_cases hml : m < l2
        case pos =>
          obtain ⟨gL, cL, uL, hvL, hcL, hfL, hSp⟩ := Sp.step HKz.out H.out hml (by decide)
          injection hvL with hA _ _
          subst hA
          rw [Nat.mul_one] at hcL hfL
          have HN := Lib.hid (hSp (.string ⟨#[115, 112, 111, 105, 108, 116]⟩))
          rw [Nat.mul_one] at HN
          clear hSp
          go_wp2_with fail
          go_roundw
          case rel => exact ⟨m + 1, _, by go_num, by omega, rfl, HN.out⟩
          case measure => simp [intOf]; omega
        case neg =>
          obtain rfl : m = l2 := by omega
          have HBy := Lib.hid (H.out.below HBz.out (fun k hk => (hKt.out k hk).1))
          have hvy := H.out.jb HVz.out (fun e => by have := (hKt.out _ e).2; omega)
          have HVRy := Lib.hid (H.out.rep HVRz.out (fun k hk => by have := (hKt.out k hk).2; omega))
          have huy := H.out.jb HUz.out (fun e => by have := (hKt.out _ e).2; omega)
          have HURy := Lib.hid (H.out.rep HURz.out (fun k hk => by have := (hKt.out k hk).2; omega))
          obtain ⟨v0, v1, v2, v3, v4, v5⟩ := hvy.cell
          obtain ⟨u0, u1, u2, u3, u4, u5⟩ := huy.cell
          clear hvy huy HBz HVz HVRz HUz HURz HKz HJZ H
          go_wp2_with fail
          refine (same_any 65536 (by omega) HSM.out _ _ wy _ _ _ _ _ _ _ _ _ _ _ _ HVRy.out HURy.out).mono ?_
          rintro e w8 ⟨rfl, hb8⟩
          have HB8 := Lib.hid (Below.trans2 HBy.out hb8)
          have HT8 := Lib.hid ((HT.out.on HB8.out).up HB8.out.size)
          clear hb8
          go_wp2_with fail
          refine (awake_any w8 HT8.out).mono ?_
          rintro e w9 ⟨rfl, hb9⟩
          have HB9 := Lib.hid (Below.trans2 HB8.out hb9)
          clear hb9
          go_wp2_with fail
          go_ret
          exact ⟨rfl, HB9.out⟩

end Go.Proofs.YtbhnfehpbbibbaaDoor

namespace Go.Proofs.YtbhnfehpbbibbaaDoor
open Go.ChangeShapes Go.WideShapes Go.ChangeAt Go.ChangeMaps Go.RowKit

theorem own : ownKnob Tryd.prog.godebug = none := by kernel_rfl
theorem gTab : Tryd.prog.globalNamed "internal/strconv.uint64pow10" = some 0 := by kernel_rfl
theorem gTabType : (Tryd.prog.globals[0]?).map (·.type) = some 99 := by kernel_rfl
theorem tab_cells : Tryd.prog.cellsOf 99 = 20 := by kernel_rfl
theorem u64_cells : Tryd.prog.cellsOf 79 = 1 := by kernel_rfl

theorem reach_is : reachBytes = 140737488351232 := by decide
/-- what the row's list gives: the library's table of powers of ten -/
theorem tab_of {laid : List (String × DataW Unit)} {W : World} (h : laidMetH Tryd.prog laid W) (hf : laid.filter (fun x => x.1 == "internal/strconv.uint64pow10") = [("internal/strconv.uint64pow10", Lib.tabData .u64 Lib.pow10Tab)]) : Tab W.heap.size W := by
  have h1 := laidMetH.filter (fun x => x.1 == "internal/strconv.uint64pow10") h
  rw [hf] at h1
  exact Lib.tabBelow_of_tabIs (Lib.tabIs_of_head (rest := []) gTab gTabType Tryd.underlying99 Tryd.underlying79 u64_cells tab_cells h1)

set_option maxRecDepth 100000 in
theorem jp_contract (H : Type) (enc : TypeId × Value → H) (W : World) (base : Nat) (args : Array Value) (ds gs : List (DataW H)) (before : List MemPlace)
    (hval : ∀ (j : Nat) t v, Tryd.f3.params[j]? = some t → args[j]? = some v → Value.okWide Tryd.prog W .any base t v)
    (hW : DataW.Whole enc Tryd.prog Tryd.f3.params.toList Rows.jsonParsesSpec.vars false W args.toList ds gs before) (hL : laidMetH Tryd.prog Rows.jsonParsesRow.laid W)
    (hsz : (DataW.weightsEach Tryd.prog (Tryd.f3.params.toList ++ (OpenSpec.ofChange Rows.jsonParsesSpec).bare.plain.varTypes Tryd.prog) (ds ++ gs)).all (· ≤ reachBytes) = true) :
    Calls Tryd.prog 3 args W fun e W' => ∃ v, e = .returned v ∧ Rows.jsonParsesSpec.post enc Tryd.prog Tryd.f3 false true false false W args v W' := by
  have hW' := hW
  obtain ⟨p, q, hA0, hV, rfl, hfz, hnd⟩ := hW
  have hA : DataW.TrodAll enc Tryd.prog W 0 (fun _ => true) true Tryd.f3.params.toList args.toList ds p := hA0
  rw [Tryd.params3] at hA hval hsz
  obtain ⟨v0, vs0, d0, ds0, p0, q0, hargs, rfl, rfl, h0, r0⟩ := trodAll_cons hA
  obtain ⟨rfl, rfl, rfl⟩ := trodAll_nil r0
  obtain rfl : args = #[v0] := by cases args; simp_all
  obtain ⟨rfl, rfl⟩ := trodVars_none hV
  obtain ⟨s, rfl, rfl, rfl, ws⟩ := open_string Tryd.underlying9 (hval 0 9 v0 rfl rfl) h0
  clear hA0
  simp only [List.append_nil] at hW'
  have hs0 : s.data.toList.length ≤ reachBytes := sized_string hsz (j := 0) (t := 9) rfl rfl
  rw [reach_is] at hs0
  have hs : s.size ≤ 140737488351232 := hs0
  refine (parses_walk s W hs (tab_of hL rfl)).mono fun e W' ⟨he, hg⟩ => ?_
  subst he
  refine ⟨_, rfl, _, _, _, [], [], [], hW', ?_, ?_, rfl, hg.frame _, fun h => by cases h⟩
  · exact trodAll_cons_mk (shut_bool Tryd.underlying4 _) trodAll_mk0
  · exact trodAll_cons_mk (shut_string Tryd.underlying9 ws) trodAll_mk0

noncomputable def laidWorld (os : Os) (laid : List (String × DataW Unit)) : World := World.laidAll Tryd.prog os laid
theorem laid_met (os : Os) (args : Array Value) : laidMet Tryd.prog Rows.jsonParsesRow.laid ((laidWorld os Rows.jsonParsesRow.laid).forCall (fun _ _ => 0) ⟨#[], args, []⟩).memory :=
  laidMet_laidAll args (by kernel_rfl) (by kernel_rfl)

set_option maxRecDepth 100000 in
theorem jp_lifted (os : Os) (started : os.Started) (H : Type) (enc : TypeId × Value → H) (F : Stop.Interp) :
    ReturnsInHanded {} Tryd.checked os 3 .any ((OpenSpec.ofChange Rows.jsonParsesSpec).preRow enc Tryd.prog Tryd.f3 Rows.jsonParsesRow.domain false Rows.jsonParsesRow.laid) (((OpenSpec.ofChange Rows.jsonParsesSpec).at F).post enc Tryd.prog Tryd.f3 false true false false) := by
  have hx : ∃ places, DataW.whole enc Tryd.prog ((laidWorld os Rows.jsonParsesRow.laid).forCall (fun _ _ => 0) ⟨#[], #[.string ⟨#[]⟩], []⟩).memory Tryd.f3.params.toList Rows.jsonParsesSpec.vars false #[Value.string ⟨#[]⟩].toList 8 = some ([.lit (.string [])], [], places) := ⟨[], by kernel_rfl⟩
  obtain ⟨places, hx⟩ := hx
  refine returnsInHanded_of_row (C := Tryd.checked) (s := OpenSpec.ofChange Rows.jsonParsesSpec) own started (by kernel_rfl) Tryd.func3
    (witness_row_at (enc := enc) (C := Tryd.checked) false (laidWorld os Rows.jsonParsesRow.laid) #[.string ⟨#[]⟩] rfl (by kernel_rfl) (by kernel_rfl) (by kernel_rfl)
      (OpenSpec.preRow_of_cond 8 hx (by kernel_rfl) (fun k hk => by cases hk) (by kernel_rfl) (laid_met os _))) ?_
  intro W base args ds gs before hval hW _ _ hsz hL _ _
  exact jp_contract H enc W base args ds gs before hval hW hL hsz

theorem jp_said : Rows.JsonParsesSaid :=
  OpenClaim.holds_of_cond 3 Tryd.f3 rfl rfl rfl rfl rfl rfl rfl ⟨rfl, rfl, rfl, rfl, rfl⟩ rfl rfl rfl rfl rfl (by kernel_rfl) Tryd.func3 (by kernel_rfl)
    (of_decide_eq_true (by kernel_rfl)) (by unfold Func.isWrapper; first | (rw [if_pos (by decide +kernel)]; kernel_rfl) | (rw [if_neg (by decide +kernel)]; exact ⟨rfl, rfl⟩))
    (fun os started H enc _ F => by rw [OpenClaim.pre_eq_preRow]; exact jp_lifted os started H enc F)

theorem jp_plain (f : FuncId) (fn : Func) (hf : Tryd.pinned.checked.prog.funcNamed "boathouse/boathouselaw3.JsonParses" = some f) (hfn : Tryd.pinned.checked.prog.funcs[f]? = some fn) :
    true = Tryd.pinned.checked.prog.looks [] ∧ ∀ (j : Nat) t, fn.params[j]? = some t → Tryd.pinned.checked.prog.wantsStandIn t = false := by
  obtain rfl : f = 3 := Option.some.inj ((show Tryd.prog.funcNamed "boathouse/boathouselaw3.JsonParses" = some 3 by kernel_rfl).symm.trans hf) |>.symm
  obtain rfl : fn = Tryd.f3 := (Option.some.inj (Tryd.func3.symm.trans hfn)).symm
  refine ⟨by kernel_rfl, fun j t ht => ?_⟩
  rw [Tryd.params3] at ht
  obtain rfl : t = 9 := by simpa using Array.mem_of_getElem? ht
  exact (show Tryd.prog.wantsStandIn 9 = false by kernel_rfl)

/-- THE CARD -/
theorem jsonParses_holds : Rows.JsonParsesCardSaid :=
  Claim7.holds_tied_plain_at .later [] _ _ _ _ jp_said (fun _ h => by cases h) (by kernel_rfl) (fun _ h => by cases h) jsonParses_row_tie rfl ⟨rfl, rfl⟩ (by kernel_rfl) rfl jp_plain (by kernel_rfl)

end Go.Proofs.YtbhnfehpbbibbaaDoor
