/- The reference's keys: may an object's keys be? For every world. -/
import Derived.Test.YtbhnfehpbbibbaaDoorM12
import Derived.Test.YtbhnfehpbbibbaaDoorM18

namespace Go.Proofs.YtbhnfehpbbibbaaDoor
open Go.RowKit

set_option maxRecDepth 100000 in
set_option maxHeartbeats 4000000 in
theorem rkeys_any (B : Nat) (hB : B ≤ 140737488289792) (a0 a1 a2 a3 a4 a5 : Value) (k : Int) (q : Bool) (n : Int) (s : ByteArray) (l : List J) (keys : List ByteArray) (w : World) (ok : Nat → Prop)
    (h : JRep w ok [a0, a1, a2, a3, a4, a5] (.mk k q n s l keys)) (hl : l.length ≤ B) (hk : keys.length ≤ B) (hks : ∀ (i : Nat) (t : ByteArray), keys[i]? = some t → t.size ≤ B) :
    Calls Tryd.prog 45 #[.agg #[a0, a1, a2, a3, a4, a5]] w fun e w' => e = .returned (.bool (keysB keys l.length)) ∧ Below w.heap.size w w' := by
  obtain ⟨rfl, rfl, rfl, rfl, css, A1, c1, A2, c2, rfl, rfl, hcl, hL, hrec, hK⟩ := rep_parts h
  have HKS := Lib.hid hks
  have HK := Lib.hid hK
  have hj := JB.new w (.int .i64 k) (.bool q) (.int .i64 n) (.string s) (.slice A1 l.length c1) (.slice A2 keys.length c2)
  have HJ := Lib.hid hj
  have HB0 : Hid (Below w.heap.size w (w.alloc (.cells #[.int .i64 k, .bool q, .int .i64 n, .string s, .slice A1 l.length c1, .slice A2 keys.length c2] 25))) := (Below.refl _ _).alloc (Nat.le_refl _) _
  clear hks h hcl hL hrec hK hj
  by_cases hlen : keys.length = l.length
  case neg =>
    have HE := Lib.hid (keysB_ne hlen)
    have hd : ((keys.length : Int) != l.length) = true := bne_iff_ne.2 (by omega)
    clear hlen
    go_enter Tryd.func45, Tryd.ntmps45
    go_wp2_with fail
    go_ret
    exact ⟨by rw [HE.out]; rfl, HB0.out⟩
  case pos =>
    have HE0 := Lib.hid (keysB_eq hlen)
    have hd : ((keys.length : Int) != l.length) = false := by rw [hlen]; simp
    clear hlen
    go_enter Tryd.func45, Tryd.ntmps45
    go_wp2_with fail
    generalize w.alloc (.cells #[.int .i64 k, .bool q, .int .i64 n, .string s, .slice A1 l.length c1, .slice A2 keys.length c2] 25) = W0 at HJ HB0 ⊢
    go_loopw [3] (fun v3 wq => ∃ (m : Nat) (wz : World), v3 = .int .i64 m ∧ m ≤ keys.length ∧ wz = wq ∧ Hid (keysF [] (keys.take m) = true ∧ Below W0.heap.size W0 wz)) (fun v3 _ => keys.length - (intOf v3).toNat)
    case atStart => exact ⟨0, _, rfl, Nat.zero_le _, rfl, rfl, Below.refl _ _⟩
    case round =>
      obtain ⟨m, wz, rfl, hm, hwz, H⟩ := hrel
      subst hwz
      have HW := Lib.hid (Below.trans2 HB0.out H.out.2)
      have k5 := HJ.out.below H.out.2 |>.cell.2.2.2.2.2
      by_cases hmk : m < keys.length
      case neg =>
        obtain rfl : m = keys.length := by omega
        have HE : Hid (keysB keys l.length = true) := by have h := H.out.1; rw [List.take_length] at h; show _ = _; rw [HE0.out]; exact h
        go_wp2_with fail
        go_ret
        exact ⟨by rw [HE.out]; rfl, HW.out⟩
      case pos =>
        obtain ⟨t, ht⟩ : ∃ t, keys[m]? = some t := ⟨_, List.getElem?_eq_getElem hmk⟩
        have ht2 : (keys.map fun t => [Value.string t])[m]? = some [Value.string t] := by rw [List.getElem?_map, ht]; rfl
        obtain ⟨b1, o1, rfl, _, _, hc⟩ := HK.out.elem ht2
        have HC := Lib.hid hc
        have g1 : wz.cell? ⟨b1, o1 + m, none⟩ = some (.string t) := by have := hc.keep HW.out 0 _ rfl; simpa using this
        have hts := HKS.out m t ht
        have HAT := Lib.hid (keysF_at ht)
        have HT := Lib.hid ht
        clear hc ht2 ht
        go_wp2_with fail
        refine (refValid_any t wz (by omega)).mono ?_
        intro e w2 hx
        have HB2 : Hid (Below W0.heap.size W0 w2) := Below.trans2 H.out.2 hx.2
        have he := hx.1
        clear hx
        cases hv : validS t with
        | false =>
          rw [hv] at he
          subst he
          have HE : Hid (keysB keys l.length = false) := by show _ = _; rw [HE0.out]; refine keysF_take (m + 1) ?_; rw [HAT.out, hv]; simp
          have HW2 := Lib.hid (Below.trans2 HB0.out HB2.out)
          clear hv
          go_wp2_with fail
          go_ret
          exact ⟨by rw [HE.out]; rfl, HW2.out⟩
        | true =>
          rw [hv] at he
          subst he
          have HV := Lib.hid hv
          clear hv
          go_wp2_with fail
          go_loopw [4] (fun v4 wq => ∃ (m2 : Nat) (wy : World), v4 = .int .i64 m2 ∧ m2 ≤ m ∧ wy = wq ∧ Hid (memB t (keys.take m2) = false ∧ Below W0.heap.size W0 wy)) (fun v4 _ => m - (intOf v4).toNat)
          case atStart => exact ⟨0, _, rfl, Nat.zero_le _, rfl, rfl, HB2.out⟩
          case round =>
            obtain ⟨m2, wy, rfl, hm2, hwy, H2⟩ := hrel
            subst hwy
            have HW3 := Lib.hid (Below.trans2 HB0.out H2.out.2)
            have kk5 := HJ.out.below H2.out.2 |>.cell.2.2.2.2.2
            by_cases hlt : m2 < m
            case pos =>
              have hlt2 : m2 < keys.length := by omega
              obtain ⟨t2, ht2⟩ : ∃ t, keys[m2]? = some t := ⟨_, List.getElem?_eq_getElem hlt2⟩
              have ht3 : (keys.map fun t => [Value.string t])[m2]? = some [Value.string t2] := by rw [List.getElem?_map, ht2]; rfl
              obtain ⟨b2, o2, hA, _, _, hc2⟩ := HK.out.elem ht3
              injection hA with hA
              injection hA with hb1 ho1 _
              subst hb1 ho1
              have y1 : wy.cell? ⟨b1, o1 + m, none⟩ = some (.string t) := by have := HC.out.keep HW3.out 0 _ rfl; simpa using this
              have y2 : wy.cell? ⟨b1, o1 + m2, none⟩ = some (.string t2) := by have := hc2.keep HW3.out 0 _ rfl; simpa using this
              have HM2 := Lib.hid (memB_take_succ (key := t) ht2)
              clear hc2 ht3 ht2 g1
              by_cases hte : t2 = t
              · have e0 := same_yes hte
                have HE : Hid (keysB keys l.length = false) := by
                  show _ = _
                  rw [HE0.out]
                  refine keysF_take (m + 1) ?_
                  have hmem : memB t (keys.take m) = true := by
                    refine memB_take_true (n := m2 + 1) ?_
                    rw [List.take_take, Nat.min_eq_left (by omega), HM2.out, decide_eq_true hte, Bool.or_true]
                  rw [HAT.out, hmem]; simp
                clear hte
                go_wp2_with fail
                go_quiet (fail)
                go_wp2_with fail
                go_ret
                exact ⟨by rw [HE.out]; rfl, below_drewN HW3.out _⟩
              · have e0 := same_no hte
                have HN : Hid (memB t (keys.take (m2 + 1)) = false) := by show _ = _; rw [HM2.out, decide_eq_false hte, H2.out.1]; rfl
                clear hte
                go_wp2_with fail
                go_quiet (fail)
                go_wp2_with fail
                go_roundw
                case rel => exact ⟨m2 + 1, _, by go_num, by omega, rfl, HN.out, below_drewN H2.out.2 _⟩
                case measure => simp [intOf]; omega
            case neg =>
              obtain rfl : m2 = m := by omega
              have HF : Hid (keysF [] (keys.take (m2 + 1)) = true) := by show _ = _; rw [HAT.out, H.out.1, H2.out.1, HV.out]; rfl
              clear g1
              go_wp2_with fail
              go_roundw
              case rel => exact ⟨m2 + 1, _, by go_num, by omega, rfl, HF.out, H2.out.2⟩
              case measure => simp [intOf]; omega

end Go.Proofs.YtbhnfehpbbibbaaDoor
