/- The statement JsonPrints, walked: it answers true for every value and key, in every world that holds the library's table. A value of JSON that came in: what its reading says of the memory. For every world. The library's table of powers of ten, as the given rows list it; a world that holds what is listed. JsonPrints holds where the value and the key together hold at most 1048576 values and letters (the second form's bound): the statement answers true, and both read as they did. Condition besides: the library's three tables hold what the program's text lays in them (the card ties that). -/
import Derived.Test.YtbhnfehpbbibbaaDoorM24
import Derived.Test.YtbhnfehpbbibbaaDoorRows
import Derived.Test.YtbhnfehpbbibbaaDoorM21
import Derived.SliceStrings
import Derived.WalkKit
import Derived.ProofKit
import Derived.OpenShut
import Derived.Test.YtbhnfehpbbibbaaDoorCards
import Derived.Test.YtbhnfehpbbibbaaDoorTie
import Derived.Test.YtbhnfehpbbibbaaDoorM13
import Derived.Lay
import Derived.Lib.LaidTab
import Derived.LaidSub
import Derived.Carry
import Derived.Deep.DeepHandedRow

namespace Go.Proofs.YtbhnfehpbbibbaaDoor
open Go.RowKit

def printO (x : J) : ByteArray × Int := match printS x with | .error c => (⟨#[]⟩, c) | .ok o => (⟨o.toArray⟩, 0)
theorem print_out {x : J} {w w' : World} {e : Ending} (h : PrintPost x w e w') : e = .returned (.tuple #[.string (printO x).1, .int .i64 (printO x).2]) ∧ Below w.heap.size w w' := by
  obtain ⟨hb, h⟩ := h
  unfold printO
  cases hp : printS x with
  | error c => rw [hp] at h; exact ⟨h, hb⟩
  | ok o => rw [hp] at h; exact ⟨h, hb⟩

theorem only_trans {R : Nat} {a b c : World} (h : Only R a b) (k : Only R b c) : Only R a c := ⟨k.os.trans h.os, k.tape.trans h.tape, k.output.trans h.output, k.size.trans h.size, fun i hi => (k.block i hi).trans (h.block i hi)⟩
theorem getF_sm {B : Nat} {key : ByteArray} : ∀ {keys : List ByteArray} {l : List J}, (∀ (i : Nat) (x : J), l[i]? = some x → Sm B x) → Sm B ((getF key keys l).getD J.null)
  | [], _, _ => Sm.null B
  | _ :: _, [], _ => Sm.null B
  | k :: ks, x :: xs, h => by
    unfold getF
    split
    · exact h 0 x rfl
    · exact getF_sm fun i y hy => h (i + 1) y hy
theorem sm_get {B : Nat} {x : J} (h : Sm B x) (key : ByteArray) : Sm B ((getS key x).getD J.null) := by
  cases h with
  | @mk k q n s l keys hl hk hs hks hn hrec =>
    show Sm B ((if k = 5 then getF key keys l else none).getD J.null)
    by_cases h5 : k = 5
    · rw [if_pos h5]; exact getF_sm hrec
    · rw [if_neg h5]; exact Sm.null B

set_option maxRecDepth 100000 in
set_option maxHeartbeats 8000000 in
theorem prints_walk (B : Nat) (hB : B ≤ 33554432) (a0 a1 a2 a3 a4 a5 : Value) (x : J) (hx : Sm B x) (key : ByteArray) (w : World) (h : JRep w (fun b => b < w.heap.size) [a0, a1, a2, a3, a4, a5] x) (htab : Tab w.heap.size w) :
    Calls Tryd.prog 4 #[.agg #[a0, a1, a2, a3, a4, a5], .string key] w fun e w' => e = .returned (.bool true) ∧ Below w.heap.size w w' := by
  have HX := Lib.hid hx
  have HT := Lib.hid htab
  cases hx with
  | @mk k q n s l keys hl hk hs hks hn hrec =>
    have hrr := h
    obtain ⟨rfl, rfl, rfl, rfl, css, A1, c1, A2, c2, rfl, rfl, hcl, hL, hre, hK⟩ := rep_parts hrr
    have HR0 := Lib.hid h
    have HL := Lib.hid hL
    have HK := Lib.hid hK
    have HRE := Lib.hid hre
    have HC := Lib.hid hcl
    obtain ⟨P1, hP1⟩ : ∃ z, z = printO (.mk k q n s l keys) := ⟨_, rfl⟩
    obtain ⟨st, cd⟩ := P1
    have HP := Lib.hid hP1
    obtain ⟨G, hG⟩ : ∃ z, z = getS key (.mk k q n s l keys) := ⟨_, rfl⟩
    have HG := Lib.hid hG
    have HJ0 := Lib.hid (JB.new w (.int .i64 k) (.bool q) (.int .i64 n) (.string s) (.slice A1 l.length c1) (.slice A2 keys.length c2))
    have HB0 : Hid (Below w.heap.size w (w.alloc (.cells #[.int .i64 k, .bool q, .int .i64 n, .string s, .slice A1 l.length c1, .slice A2 keys.length c2] 25))) := (Below.refl _ _).alloc (Nat.le_refl _) _
    clear h htab hrr hL hK hre hcl hks hrec hn hP1 hG
    go_enter Tryd.func4, Tryd.ntmps4
    go_wp2_with fail
    generalize w.alloc (.cells #[.int .i64 k, .bool q, .int .i64 n, .string s, .slice A1 l.length c1, .slice A2 keys.length c2] 25) = W0 at HJ0 HB0 ⊢
    have hz0 : w.heap.size < W0.heap.size := HJ0.out.lt
    have HT0 := Lib.hid ((HT.out.on HB0.out).up HB0.out.size)
    refine (print_any B (by omega) _ _ _ _ _ _ (.mk k q n s l keys) (fun b => b < W0.heap.size) W0 ((HR0.out.stays HB0.out).mono fun b hb hlt => ⟨hlt, rfl⟩) (fun b hb => hb) HX.out HT0.out).mono ?_
    intro e w1 hx
    obtain ⟨rfl, hb1⟩ := print_out hx
    rw [← HP.out]
    have HB1 := Lib.hid (Below.trans2 HB0.out hb1)
    have HJ1 := Lib.hid (HJ0.out.below hb1)
    obtain ⟨k0, k1, k2, k3, k4, k5⟩ := HJ1.out.cell
    clear hx hb1 HJ0 HB0 HT0
    go_wp2_with fail
    refine (rprint_any B (by omega) _ _ _ _ _ _ (.mk k q n s l keys) (fun b => b < w1.heap.size) w1 ((HR0.out.stays HB1.out).mono fun b hb hlt => ⟨hlt, rfl⟩) (fun b hb => hb) HX.out).mono ?_
    intro e w2 hx
    obtain ⟨rfl, hb2⟩ := print_out hx
    rw [← HP.out]
    have HB2 := Lib.hid (Below.trans2 HB1.out hb2)
    have HJ2 := Lib.hid (HJ1.out.below hb2)
    have hsz2 : w.heap.size < w2.heap.size := HJ2.out.lt
    clear hx hb2 HJ1 HB1 k0 k1 k2 k3 k4 k5
    obtain ⟨k0, k1, k2, k3, k4, k5⟩ := HJ2.out.cell
    go_wp2_with fail
    refine (get_any B (by omega) HX.out key _ w2 _ _ _ _ _ _ (HR0.out.stays HB2.out)).mono ?_
    rintro e w3 ⟨a, b, c, d, f, g, rfl, hb3, hr3⟩
    obtain ⟨y1, y2, y3, y4, B1, j1, n1, B2, j2, n2, rfl, rfl, rfl, rfl, rfl, rfl⟩ := rep_form hr3
    rw [← HG.out] at hr3 ⊢
    have hbx : Below w3.heap.size w3 (w3.alloc (.cells #[.int .i64 y1, .bool y2, .int .i64 y3, .string y4, .slice B1 j1 n1, .slice B2 j2 n2] 25)) := (Below.refl _ _).alloc (Nat.le_refl _) _
    have hby : Below w3.heap.size w3 ((w3.alloc (.cells #[.int .i64 y1, .bool y2, .int .i64 y3, .string y4, .slice B1 j1 n1, .slice B2 j2 n2] 25)).alloc (.cells #[.int .i64 0, .bool false, .int .i64 0, .string ⟨#[]⟩, .slice none 0 0, .slice none 0 0] 25)) := hbx.alloc hbx.size _
    have hbz := Below.trans2 hb3 hby
    have HV := Lib.hid (boxes w3 (.int .i64 y1) (.bool y2) (.int .i64 y3) (.string y4) (.slice B1 j1 n1) (.slice B2 j2 n2) (.int .i64 0) (.bool false) (.int .i64 0) (.string ⟨#[]⟩) (.slice none 0 0) (.slice none 0 0))
    have hq3 : JRep w3 (fun b => w2.heap.size ≤ b ∧ b < w3.heap.size) [.int .i64 y1, .bool y2, .int .i64 y3, .string y4, .slice B1 j1 n1, .slice B2 j2 n2] (G.getD J.null) := hr3.mono fun b hb hlt => ⟨⟨hb, hlt⟩, rfl⟩
    have HVR := Lib.hid (hq3.stays hby)
    have HJ3 := Lib.hid (HJ2.out.below hbz)
    have HB3 := Lib.hid (Below.trans2 HB2.out hbz)
    have hz3 : w2.heap.size ≤ w3.heap.size := hb3.size
    clear hb3 hr3 hq3 hbx hby hbz HJ2 HB2 k0 k1 k2 k3 k4 k5
    go_wp2_with fail
    generalize (w3.alloc (.cells #[.int .i64 y1, .bool y2, .int .i64 y3, .string y4, .slice B1 j1 n1, .slice B2 j2 n2] 25)).alloc (.cells #[.int .i64 0, .bool false, .int .i64 0, .string ⟨#[]⟩, .slice none 0 0, .slice none 0 0] 25) = W4 at HV HVR HJ3 HB3 ⊢
    have hz4 : w3.heap.size + 1 < W4.heap.size := HV.out.2.lt
    go_loopg [11, 13] (keys.length) (fun nn v11 v13 wr => ∃ (m : Nat) (so : Bool) (e0 e1 e2 e3 e4 e5 : Value) (y : J), v13 = .int .i64 m ∧ v11 = .bool so ∧ m ≤ keys.length ∧ nn = keys.length - m ∧
      Hid (JB wr (w3.heap.size + 1) e0 e1 e2 e3 e4 e5 ∧ Only (w3.heap.size + 1) W4 wr ∧ JRep wr (fun b => b < w3.heap.size + 1) [e0, e1, e2, e3, e4, e5] y ∧ (if so then G = some y else y = J.null ∧ G = if k = 5 then getF key (keys.drop m) (l.drop m) else none)))
    case atStart => exact ⟨0, false, _, _, _, _, _, _, J.null, rfl, rfl, Nat.zero_le _, rfl, HV.out.2, Only.refl _ _, JRep.nils _ _ _ _ _ _, rfl, HG.out⟩
    case round =>
      obtain ⟨m, so, e0, e1, e2, e3, e4, e5, y, rfl, rfl, hm, hn, H⟩ := hrel
      have HN := Lib.hid hn
      have HJr := Lib.hid (HJ3.out.only H.out.2.1 (by omega))
      have HBr := Lib.hid (below_only HB3.out H.out.2.1 (by omega))
      have HVr := Lib.hid (HV.out.1.only H.out.2.1 (by omega))
      have HVRr : Hid (JRep wr (fun b => w2.heap.size ≤ b ∧ b < w3.heap.size) [.int .i64 y1, .bool y2, .int .i64 y3, .string y4, .slice B1 j1 n1, .slice B2 j2 n2] (G.getD J.null)) := HVR.out.mono fun b hb _ => ⟨hb, H.out.2.1.block b (by omega)⟩
      obtain ⟨k0, k1, k2, k3, k4, k5⟩ := HJr.out.cell
      clear hn
      by_cases hgo : so = false ∧ k = 5 ∧ m < keys.length ∧ m < l.length
      case pos =>
        obtain ⟨rfl, rfl, hmk, hml⟩ := hgo
        have hf := H.out.2.2.2
        simp only [Bool.false_eq_true, if_false, if_true] at hf
        obtain ⟨rfl, hf⟩ := hf
        obtain ⟨t, ht⟩ : ∃ t, keys[m]? = some t := ⟨_, List.getElem?_eq_getElem hmk⟩
        have ht2 : (keys.map fun t => [Value.string t])[m]? = some [Value.string t] := by rw [List.getElem?_map, ht]; rfl
        obtain ⟨kb, ko, rfl, hkb, _, hck⟩ := HK.out.elem ht2
        have gk : wr.cell? ⟨kb, ko + m, none⟩ = some (.string t) := by have := hck.keep HBr.out 0 _ rfl; simpa using this
        clear hck ht2
        by_cases hte : t = key
        case neg =>
          have e0 := same_no hte
          have HS : Hid (G = if (5 : Int) = 5 then getF key (keys.drop (m + 1)) (l.drop (m + 1)) else none) := by show _ = _; rw [if_pos rfl, hf]; exact getF_miss ht hte
          clear hte ht hf
          go_wp2_with fail
          go_roundg (keys.length - (m + 1))
          case measure => have := HN.out; omega
          case rel => exact ⟨m + 1, false, _, _, _, _, _, _, J.null, by go_num, rfl, by omega, rfl, H.out.1, H.out.2.1, H.out.2.2.1, rfl, HS.out⟩
        case pos =>
          have e0 := same_yes hte
          obtain ⟨x, hx⟩ : ∃ t, l[m]? = some t := ⟨_, List.getElem?_eq_getElem hml⟩
          obtain ⟨cs, hcs⟩ : ∃ t, css[m]? = some t := ⟨_, List.getElem?_eq_getElem (by have := HC.out; omega)⟩
          obtain ⟨eb, eo, rfl, heb, _, hc1⟩ := HL.out.elem hcs
          have hr1 := HRE.out m cs x hcs hx
          obtain ⟨x0, x1, x2, x3, x4, x5, rfl⟩ := hr1.six
          obtain ⟨z1, z2, z3, z4, E1, l1, m1, E2, l2, m2, rfl, rfl, rfl, rfl, rfl, rfl⟩ := rep_form hr1
          obtain ⟨g0, g1, g2, g3, g4, g5⟩ := cells6 (hc1.keep HBr.out)
          have HRx := Lib.hid (hr1.stays HBr.out)
          have HS : Hid (G = some x) := by show _ = _; rw [hf]; exact getF_hit (by rw [ht, hte]) hx
          have f0 := H.out.1.frozen 0
          have f1 := H.out.1.frozen 1
          have f2 := H.out.1.frozen 2
          have f3 := H.out.1.frozen 3
          have f4 := H.out.1.frozen 4
          have f5 := H.out.1.frozen 5
          have hex := e0
          obtain ⟨q1, q2, q3, q4, Q1, ql1, qm1, Q2, ql2, qm2, rfl, rfl, rfl, rfl, rfl, rfl⟩ := rep_form H.out.2.2.1
          obtain ⟨u0, u1, u2, u3, u4, u5⟩ := H.out.1.cell
          clear hte ht hf hc1 hr1 hcs hx
          go_wp2_with fail
          have ho := only6 wr (w3.heap.size + 1) (.int .i64 z1) (.bool z2) (.int .i64 z3) (.string z4) (.slice E1 l1 m1) (.slice E2 l2 m2)
          have HY : Hid (JB ((((((wr.setCell ⟨w3.heap.size + 1, 0, none⟩ (.int .i64 z1)).setCell ⟨w3.heap.size + 1, 1, none⟩ (.bool z2)).setCell ⟨w3.heap.size + 1, 2, none⟩ (.int .i64 z3)).setCell ⟨w3.heap.size + 1, 3, none⟩ (.string z4)).setCell ⟨w3.heap.size + 1, 4, none⟩ (.slice E1 l1 m1)).setCell ⟨w3.heap.size + 1, 5, none⟩ (.slice E2 l2 m2)) (w3.heap.size + 1) (.int .i64 z1) (.bool z2) (.int .i64 z3) (.string z4) (.slice E1 l1 m1) (.slice E2 l2 m2) ∧ _ ∧ _) :=
            ⟨H.out.1.set6 _ _ _ _ _ _, only_trans H.out.2.1 ho, HRx.out.mono fun b hb _ => ⟨show b < w3.heap.size + 1 by have : b < w.heap.size := hb; omega, ho.block b (by have : b < w.heap.size := hb; omega)⟩⟩
          clear ho
          go_roundg (keys.length - (m + 1))
          case measure => have := HN.out; omega
          case rel => exact ⟨m + 1, true, _, _, _, _, _, _, x, by go_num, rfl, by omega, rfl, HY.out.1, HY.out.2.1, HY.out.2.2, HS.out⟩
      case neg =>
        have hGs : G.isSome = so ∧ G.getD J.null = y := by
          have hf := H.out.2.2.2
          cases so with
          | true => simp only [if_true] at hf; rw [hf]; exact ⟨rfl, rfl⟩
          | false =>
            simp only [Bool.false_eq_true, if_false] at hf
            obtain ⟨rfl, hf⟩ := hf
            have hN : G = none := by
              rw [hf]
              by_cases h5 : k = 5
              · rw [if_pos h5]
                refine getF_end ?_
                by_cases h1 : m < keys.length
                · exact .inr (by by_cases h2 : m < l.length; exact absurd ⟨rfl, h5, h1, h2⟩ hgo; omega)
                · exact .inl (by omega)
              · rw [if_neg h5]
            rw [hN]; exact ⟨rfl, rfl⟩
        have HSM : Hid (Sm B y) := by
          show Sm B y
          rw [← hGs.2, HG.out]
          exact sm_get HX.out key
        have HVR5 : Hid (JRep wr (fun b => w2.heap.size ≤ b ∧ b < w3.heap.size) [.int .i64 y1, .bool y2, .int .i64 y3, .string y4, .slice B1 j1 n1, .slice B2 j2 n2] y) := by have h := HVRr.out; rw [hGs.2] at h; exact h
        have hib := hGs.1
        obtain ⟨t1, t2, t3, t4, T1, tl1, tm1, T2, tl2, tm2, rfl, rfl, rfl, rfl, rfl, rfl⟩ := rep_form H.out.2.2.1
        obtain ⟨v0, v1, v2, v3, v4, v5⟩ := HVr.out.cell
        obtain ⟨u0, u1, u2, u3, u4, u5⟩ := H.out.1.cell
        have hss := same_yes (a := st) rfl
        clear hGs
        cases so with
        | true =>
          clear hgo
          go_wp2_with (first | (go_at_call 8; refine (num_any _ _).mono ?_; rintro e w9 ⟨rfl, rfl⟩) | (go_at_call 7; refine (same_any B (by omega) HSM.out _ _ wr _ _ _ _ _ _ _ _ _ _ _ _ HVR5.out H.out.2.2.1).mono ?_; rintro e w8 ⟨rfl, hb8⟩; have HB8 := Lib.hid (Below.trans2 HBr.out hb8); have HT8 := Lib.hid ((HT.out.on HB8.out).up HB8.out.size); clear hb8) | (go_at_call 9; refine (awake_any w8 HT8.out).mono ?_; rintro e w9 ⟨rfl, hb9⟩; have HB9 := Lib.hid (Below.trans2 HB8.out hb9); clear hb9))
          all_goals
            go_ret
            exact ⟨rfl, HB9.out⟩
        | false =>
          by_cases h5 : k = 5
          case neg =>
            have h5b : (k == 5) = false := beq_eq_false_iff_ne.2 h5
            clear h5 hgo
            go_wp2_with (first | (go_at_call 8; refine (num_any _ _).mono ?_; rintro e w9 ⟨rfl, rfl⟩) | (go_at_call 7; refine (same_any B (by omega) HSM.out _ _ wr _ _ _ _ _ _ _ _ _ _ _ _ HVR5.out H.out.2.2.1).mono ?_; rintro e w8 ⟨rfl, hb8⟩; have HB8 := Lib.hid (Below.trans2 HBr.out hb8); have HT8 := Lib.hid ((HT.out.on HB8.out).up HB8.out.size); clear hb8) | (go_at_call 9; refine (awake_any w8 HT8.out).mono ?_; rintro e w9 ⟨rfl, hb9⟩; have HB9 := Lib.hid (Below.trans2 HB8.out hb9); clear hb9))
            all_goals
              go_ret
              exact ⟨rfl, HB9.out⟩
          case pos =>
            subst h5
            by_cases h1 : m < keys.length
            case neg =>
              clear hgo
              go_wp2_with (first | (go_at_call 8; refine (num_any _ _).mono ?_; rintro e w9 ⟨rfl, rfl⟩) | (go_at_call 7; refine (same_any B (by omega) HSM.out _ _ wr _ _ _ _ _ _ _ _ _ _ _ _ HVR5.out H.out.2.2.1).mono ?_; rintro e w8 ⟨rfl, hb8⟩; have HB8 := Lib.hid (Below.trans2 HBr.out hb8); have HT8 := Lib.hid ((HT.out.on HB8.out).up HB8.out.size); clear hb8) | (go_at_call 9; refine (awake_any w8 HT8.out).mono ?_; rintro e w9 ⟨rfl, hb9⟩; have HB9 := Lib.hid (Below.trans2 HB8.out hb9); clear hb9))
              all_goals
                go_ret
                exact ⟨rfl, HB9.out⟩
            case pos =>
              have h2 : ¬ m < l.length := fun h2 => hgo ⟨rfl, rfl, h1, h2⟩
              clear hgo
              go_wp2_with (first | (go_at_call 8; refine (num_any _ _).mono ?_; rintro e w9 ⟨rfl, rfl⟩) | (go_at_call 7; refine (same_any B (by omega) HSM.out _ _ wr _ _ _ _ _ _ _ _ _ _ _ _ HVR5.out H.out.2.2.1).mono ?_; rintro e w8 ⟨rfl, hb8⟩; have HB8 := Lib.hid (Below.trans2 HBr.out hb8); have HT8 := Lib.hid ((HT.out.on HB8.out).up HB8.out.size); clear hb8) | (go_at_call 9; refine (awake_any w8 HT8.out).mono ?_; rintro e w9 ⟨rfl, hb9⟩; have HB9 := Lib.hid (Below.trans2 HB8.out hb9); clear hb9))
              all_goals
                go_ret
                exact ⟨rfl, HB9.out⟩

end Go.Proofs.YtbhnfehpbbibbaaDoor

namespace Go.Proofs.YtbhnfehpbbibbaaDoor
open Go.ChangeShapes Go.WideShapes Go.ChangeAt Go.ChangeMaps Go.RowKit

theorem build {α β : Type} {P : Nat → α → β → Prop} : ∀ (n : Nat), (∀ i, i < n → ∃ a b, P i a b) → ∃ (l1 : List α) (l2 : List β), l1.length = n ∧ l2.length = n ∧ ∀ i a b, l1[i]? = some a → l2[i]? = some b → P i a b
  | 0, _ => ⟨[], [], rfl, rfl, by intro i a b h; simp at h⟩
  | n + 1, h => by
    obtain ⟨l1, l2, h1, h2, h3⟩ := build n (fun i hi => h i (by omega))
    obtain ⟨a, b, hab⟩ := h n (by omega)
    refine ⟨l1 ++ [a], l2 ++ [b], by simp [h1], by simp [h2], fun i x y hx hy => ?_⟩
    by_cases hi : i < n
    · rw [List.getElem?_append_left (by omega)] at hx hy
      exact h3 i x y hx hy
    · have : i = n := by have := (List.getElem?_eq_some_iff.1 hx).1; simp [h1] at this; omega
      subst this
      rw [List.getElem?_append_right (by omega)] at hx hy
      simp [h1, h2] at hx hy
      subst hx hy
      exact hab
theorem bulk_part {H : Type} {d : DataW H} {l : List (DataW H)} (h : d ∈ l) : Rows.uptoBulk d ≤ Rows.uptoBulkAll l := by
  induction l with
  | nil => cases h
  | cons x r ih =>
    simp only [Rows.uptoBulkAll]
    rcases List.mem_cons.1 h with e | e
    · subst e; omega
    · have := ih e; omega
theorem bulk_pos {H : Type} (d : DataW H) : 1 ≤ Rows.uptoBulk d := by
  cases d with
  | lit l => cases l <;> simp [Rows.uptoBulk]
  | nil => simp [Rows.uptoBulk]
  | ptr d => simp [Rows.uptoBulk]
  | slice elems spare => simp [Rows.uptoBulk]
  | agg parts => simp [Rows.uptoBulk]
  | iface t d => simp [Rows.uptoBulk]
  | map entries => simp [Rows.uptoBulk]
  | held h => simp [Rows.uptoBulk]
theorem bulk_len {H : Type} (l : List (DataW H)) : l.length ≤ Rows.uptoBulkAll l := by
  induction l with
  | nil => simp
  | cons x r ih => have := bulk_pos x; simp only [Rows.uptoBulkAll, List.length_cons]; omega

theorem jcells : Tryd.prog.cellsOf 25 = 6 := by kernel_rfl
theorem icells : Tryd.prog.cellsOf 3 = 1 := by kernel_rfl
theorem bcells : Tryd.prog.cellsOf 4 = 1 := by kernel_rfl
theorem scells : Tryd.prog.cellsOf 9 = 1 := by kernel_rfl
theorem lcells : Tryd.prog.cellsOf 22 = 1 := by kernel_rfl
theorem kcells : Tryd.prog.cellsOf 23 = 1 := by kernel_rfl

theorem six_of {α : Type} {l : List α} (h : l.length = 6) : ∃ a b c d e f, l = [a, b, c, d, e, f] := by
  match l, h with
  | [a, b, c, d, e, f], _ => exact ⟨a, b, c, d, e, f, rfl⟩

theorem open_keys {H : Type} {enc : TypeId × Value → H} {w : World} {sp : Nat → Bool} {held : Bool} {n : Nat} {v : Value} {x : DataW H × List MemPlace} {B : Nat}
    (h : DataW.trod enc Tryd.prog w 0 sp held n 23 [v] = some x) (hB : Rows.uptoBulk x.1 ≤ B) :
    ∃ keys : List ByteArray, RowAt w (fun b => b < w.heap.size) 1 v (keys.map fun t => [Value.string t]) ∧ keys.length ≤ B ∧ ∀ (i : Nat) (t : ByteArray), keys[i]? = some t → t.size ≤ B := by
  rcases open_strings Tryd.underlying23 Tryd.underlying9 scells h with ⟨hcs, hx⟩ | ⟨a, len, cap, ss, hcs, _, hl, hm, hz, hx, hcell, hsz⟩
  · injection hcs with hcs _
    subst hcs
    exact ⟨[], .inl ⟨rfl, none, 0, rfl⟩, Nat.zero_le _, by intro i t h; simp at h⟩
  · injection hcs with hcs _
    subst hcs
    subst hx
    have hls : len ≤ ss.length := by rw [hz]; split <;> omega
    have htl : (ss.take len).length = len := by rw [List.length_take]; omega
    simp only [Rows.uptoBulk] at hB
    have h1 := bulk_len (H := H) (strs (ss.take len))
    have h2 : (strs (H := H) (ss.take len)).length = len := by unfold strs; rw [List.length_map, htl]
    refine ⟨ss.take len, ?_, by omega, fun i t ht => ?_⟩
    · by_cases h0 : len = 0
      · subst h0
        exact .inl ⟨by simp, some a, cap, rfl⟩
      · have c0 := hcell 0 (by omega)
        have hspot : a.spot = none := World.cell?_spot (by simpa [Addr.add] using c0)
        obtain ⟨b, off, spot⟩ := a
        simp only at hspot
        subst hspot
        have hb : b < w.heap.size := by rw [addr_add] at c0; exact cell_lt c0
        refine .inr ⟨b, off, cap, ?_, by rw [List.length_map, htl], by rw [List.length_map, htl]; exact hl, hb, fun i cs hi => ?_⟩
        · intro e
          have := congrArg List.length e
          rw [List.length_map, htl] at this; simp at this; omega
        · rw [List.getElem?_map] at hi
          cases hg : (ss.take len)[i]? with
          | none => rw [hg] at hi; cases hi
          | some t =>
            rw [hg] at hi
            injection hi with hi
            subst hi
            have hil : i < len := by have := (List.getElem?_eq_some_iff.1 hg).1; omega
            have hgs : ss[i]? = some t := by rw [List.getElem?_take, if_pos hil] at hg; exact hg
            refine ⟨rfl, fun j u hj => ?_⟩
            have c := hcell i (by omega)
            rw [addr_add] at c
            cases j with
            | zero =>
              simp at hj
              subst hj
              rw [Nat.mul_one, Nat.add_zero, c]
              simp [List.getD, hgs]
            | succ j => simp at hj
    · have hmem : (DataW.lit (.string t.data.toList) : DataW H) ∈ strs (ss.take len) := by
        unfold strs
        exact List.mem_map.2 ⟨t, List.mem_of_getElem? ht, rfl⟩
      have h3 := bulk_part hmem
      simp only [Rows.uptoBulk] at h3
      have : t.data.toList.length = t.size := rfl
      omega

theorem wf_i64 {m : Int} (h : (Lit.int .i64 m).wf = true) : -9223372036854775808 ≤ m ∧ m ≤ 9223372036854775807 := by
  have e1 : IntKind.i64.min = -9223372036854775808 := rfl
  have e2 : IntKind.i64.max = 9223372036854775807 := rfl
  simpa [Lit.wf, e1, e2] using h
set_option maxRecDepth 100000 in
theorem open_json {H : Type} {enc : TypeId × Value → H} {w : World} {sp : Nat → Bool} {held : Bool} {B : Nat} : ∀ (fuel : Nat) (cs : List Value) (x : DataW H × List MemPlace),
    DataW.trod enc Tryd.prog w 0 sp held fuel 25 cs = some x → Rows.uptoBulk x.1 ≤ B → ∃ y, JRep w (fun b => b < w.heap.size) cs y ∧ Sm B y := by
  intro fuel
  induction fuel using Nat.strongRecOn with
  | _ fuel ih =>
    intro cs x h hB
    obtain ⟨xs, n, rfl, rfl, hlen, hxl, hf⟩ := DataW.trod_struct Tryd.underlying25 h
    rw [jcells] at hlen
    obtain ⟨c0, c1, c2, c3, c4, c5, rfl⟩ := six_of hlen
    obtain ⟨y0, y1, y2, y3, y4, y5, rfl⟩ := six_of (by rw [hxl]; rfl)
    have f0 := hf 0 _ rfl
    have f1 := hf 1 _ rfl
    have f2 := hf 2 _ rfl
    have f3 := hf 3 _ rfl
    have f4 := hf 4 _ rfl
    have f5 := hf 5 _ rfl
    simp only [icells, bcells, scells, lcells, kcells, List.drop_zero, List.drop_succ_cons, List.take_succ_cons, List.take_zero, List.getElem?_cons_zero, List.getElem?_cons_succ] at f0 f1 f2 f3 f4 f5
    simp only [List.map_cons, List.map_nil, Rows.uptoBulk, Rows.uptoBulkAll] at hB
    obtain ⟨k, e0, rfl, w0⟩ := DataW.trod_int Tryd.underlying3 f0
    obtain ⟨q, e1, rfl, _⟩ := DataW.trod_bool Tryd.underlying4 f1
    obtain ⟨m, e2, rfl, w2⟩ := DataW.trod_int Tryd.underlying3 f2
    obtain ⟨s, e3, rfl, w3⟩ := DataW.trod_string Tryd.underlying9 f3
    injection e0 with e0 _
    injection e1 with e1 _
    injection e2 with e2 _
    injection e3 with e3 _
    subst e0 e1 e2 e3
    obtain ⟨keys, hK, hkl, hks⟩ := open_keys f5 (B := B) (by omega)
    have hn := wf_i64 w2
    have hs : s.size ≤ B := by
      simp only [Rows.uptoBulk] at hB
      have : s.data.toList.length = s.size := rfl
      omega
    rcases DataW.trod_slice Tryd.underlying22 f4 with ⟨hcs, _⟩ | ⟨a, len, cap, elems, rest, n2, hn2, hcs, hx4, _, hl, hm, hel, hall, _, _⟩
    · injection hcs with hcs _
      subst hcs
      exact ⟨.mk k q m s [] keys, .mk [] rfl (.inl ⟨rfl, none, 0, rfl⟩) (by intro i cs x h; simp at h) hK, .mk (Nat.zero_le _) hkl hs hks hn (by intro i x h; simp at h)⟩
    · injection hcs with hcs _
      subst hcs
      have hB4 : Rows.uptoBulkAll (elems.map (·.1)) ≤ B := by
        rw [hx4] at hB
        simp only [Rows.uptoBulk] at hB
        omega
      have each : ∀ i, i < len → ∃ (cs : List Value) (y : J), cs.length = 6 ∧ (∀ j u, cs[j]? = some u → w.cell? ((a.add (i * 6)).add j) = some u) ∧ JRep w (fun b => b < w.heap.size) cs y ∧ Sm B y := by
        intro i hi
        have h1 := hall i hi
        have h2 : elems[i]? = some elems[i] := List.getElem?_eq_getElem (by omega)
        rw [h2, jcells] at h1
        obtain ⟨cs, hc, ht⟩ := Option.bind_eq_some_iff.1 h1
        obtain ⟨y, hy1, hy2⟩ := ih n2 (by omega) cs elems[i] ht (by
          have : elems[i].1 ∈ elems.map (·.1) := List.mem_map.2 ⟨_, List.getElem_mem _, rfl⟩
          have := bulk_part this
          omega)
        obtain ⟨_, g1, g2⟩ := World.cells?_some hc
        refine ⟨cs, y, g1, fun j u hj => ?_, hy1, hy2⟩
        have hj6 : j < 6 := by have := (List.getElem?_eq_some_iff.1 hj).1; omega
        rw [g2 j hj6, hj]
      obtain ⟨css, l, hcl, hll, hP⟩ := build (P := fun i (cs : List Value) (y : J) => cs.length = 6 ∧ (∀ j u, cs[j]? = some u → w.cell? ((a.add (i * 6)).add j) = some u) ∧ JRep w (fun b => b < w.heap.size) cs y ∧ Sm B y) len each
      have hBl : len ≤ B := by
        have := bulk_len (elems.map (·.1))
        rw [List.length_map] at this; omega
      have hRow : RowAt w (fun b => b < w.heap.size) 6 (.slice (some a) len cap) css := by
        by_cases h0 : len = 0
        · subst h0
          exact .inl ⟨List.eq_nil_of_length_eq_zero hcl, some a, cap, rfl⟩
        · have hc0 : css[0]? = some css[0] := List.getElem?_eq_getElem (by omega)
          have hl0 : l[0]? = some l[0] := List.getElem?_eq_getElem (by omega)
          obtain ⟨p1, p2, _, _⟩ := hP 0 _ _ hc0 hl0
          have c0 := p2 0 (css[0][0]) (List.getElem?_eq_getElem (by omega))
          have hspot : a.spot = none := World.cell?_spot (by simpa [Addr.add] using c0)
          obtain ⟨b, off, spot⟩ := a
          simp only at hspot
          subst hspot
          have hb : b < w.heap.size := by rw [addr_add, addr_add] at c0; exact cell_lt c0
          refine .inr ⟨b, off, cap, ?_, by rw [hcl], by omega, hb, fun i cs hi => ?_⟩
          · intro e
            rw [e] at hcl; simp at hcl; omega
          · have hil : i < len := by have := (List.getElem?_eq_some_iff.1 hi).1; omega
            have hli : l[i]? = some l[i] := List.getElem?_eq_getElem (by omega)
            obtain ⟨q1, q2, _, _⟩ := hP i cs _ hi hli
            refine ⟨q1, fun j u hj => ?_⟩
            have := q2 j u hj
            rw [addr_add, addr_add] at this
            exact this
      refine ⟨.mk k q m s l keys, .mk css (by omega) hRow (fun i cs x hi hx => (hP i cs x hi hx).2.2.1) hK, .mk (by omega) hkl hs hks hn fun i x hx => ?_⟩
      have hil : i < len := by have := (List.getElem?_eq_some_iff.1 hx).1; omega
      exact (hP i css[i] x (List.getElem?_eq_getElem (by omega)) hx).2.2.2

end Go.Proofs.YtbhnfehpbbibbaaDoor

namespace Go.Proofs.YtbhnfehpbbibbaaDoor
open Go.ChangeShapes Go.WideShapes Go.ChangeAt Go.ChangeMaps Go.RowKit

theorem own : ownKnob Tryd.prog.godebug = none := by kernel_rfl
theorem gTab : Tryd.prog.globalNamed "internal/strconv.uint64pow10" = some 0 := by kernel_rfl
theorem gTabType : (Tryd.prog.globals[0]?).map (·.type) = some 99 := by kernel_rfl
theorem tab_cells : Tryd.prog.cellsOf 99 = 20 := by kernel_rfl
theorem u64_cells : Tryd.prog.cellsOf 79 = 1 := by kernel_rfl

theorem reach_is : reachBytes = 140737488351232 := by decide
/-- what the row's list gives: the library's table of powers of ten -/
theorem tab_of {laid : List (String × DataW Unit)} {W : World} (h : laidMetH Tryd.prog laid W) (hf : laid.filter (fun x => x.1 == "internal/strconv.uint64pow10") = [("internal/strconv.uint64pow10", Lib.tabData .u64 Lib.pow10Tab)]) : Tab W.heap.size W := by
  have h1 := laidMetH.filter (fun x => x.1 == "internal/strconv.uint64pow10") h
  rw [hf] at h1
  exact Lib.tabBelow_of_tabIs (Lib.tabIs_of_head (rest := []) gTab gTabType Tryd.underlying99 Tryd.underlying79 u64_cells tab_cells h1)

noncomputable def laidWorld (os : Os) (laid : List (String × DataW Unit)) : World := World.laidAll Tryd.prog os laid
theorem laid_met (os : Os) (args : Array Value) : laidMet Tryd.prog Rows.jsonParsesRow.laid ((laidWorld os Rows.jsonParsesRow.laid).forCall (fun _ _ => 0) ⟨#[], args, []⟩).memory :=
  laidMet_laidAll args (by kernel_rfl) (by kernel_rfl)

end Go.Proofs.YtbhnfehpbbibbaaDoor

namespace Go.Proofs.YtbhnfehpbbibbaaDoor
open Go.ChangeShapes Go.WideShapes Go.ChangeAt Go.ChangeMaps Go.RowKit

theorem lo : laidOutB Tryd.prog = true := by kernel_rfl

set_option maxRecDepth 100000 in
theorem jq_contract (H : Type) (enc : TypeId × Value → H) (W : World) (base : Nat) (args : Array Value) (ds gs : List (DataW H)) (before : List MemPlace)
    (hval : ∀ (j : Nat) t v, Tryd.f4.params[j]? = some t → args[j]? = some v → Value.okWide Tryd.prog W .any base t v)
    (hW : DataW.Whole enc Tryd.prog Tryd.f4.params.toList Rows.jsonPrintsSpec.vars false W args.toList ds gs before) (hL : laidMetH Tryd.prog Rows.jsonPrintsUptoRow.laid W)
    (hk : Rows.uptoSmall H (ds ++ gs) = true) :
    Calls Tryd.prog 4 args W fun e W' => ∃ v, e = .returned v ∧ Rows.jsonPrintsSpec.post enc Tryd.prog Tryd.f4 false true false false W args v W' := by
  have hW' := hW
  obtain ⟨p, q, hA0, hV, rfl, hfz, hnd⟩ := hW
  have hA : DataW.TrodAll enc Tryd.prog W 0 (fun _ => true) true Tryd.f4.params.toList args.toList ds p := hA0
  rw [Tryd.params4] at hA hval
  obtain ⟨v0, v1, d0, d1, p0, p1, rfl, rfl, rfl, h0, h1⟩ := trodAll_two hA
  obtain ⟨rfl, rfl⟩ := trodVars_none hV
  have h0k := h0
  obtain ⟨key, rfl, rfl, rfl, ws⟩ := open_string Tryd.underlying9 (hval 1 9 v1 rfl rfl) h1
  obtain ⟨cs, rfl, hcs⟩ := okWide_struct Tryd.underlying25 (hval 0 25 v0 rfl rfl)
  rw [jcells] at hcs
  obtain ⟨c0, c1, c2, c3, c4, c5, hl6⟩ := six_of (l := cs.toList) (by simpa using hcs)
  obtain rfl : cs = #[c0, c1, c2, c3, c4, c5] := by apply Array.ext'; exact hl6
  obtain ⟨fuel, hf⟩ := h0
  have hbk : Rows.uptoBulk d0 ≤ 1048576 := by
    have h := of_decide_eq_true hk
    simp only [List.append_nil, Rows.uptoBulkAll] at h
    omega
  obtain ⟨x, hr, hsm⟩ := open_json fuel [c0, c1, c2, c3, c4, c5] _ hf hbk
  clear hA0
  simp only [List.append_nil] at hW'
  have hlt : ∀ x ∈ p0, x.block < W.heap.size := fun x hx => hW'.lt x (by simp [hx])
  refine (prints_walk 1048576 (by omega) c0 c1 c2 c3 c4 c5 x hsm key W hr (tab_of hL rfl)).mono fun e W' ⟨he, hg⟩ => ?_
  subst he
  refine ⟨_, rfl, _, _, _, [], p0, [], hW', ?_, ?_, rfl, hg.frame _, fun h => by cases h⟩
  · exact trodAll_cons_mk (shut_bool Tryd.underlying4 _) trodAll_mk0
  · have h2 := trodAll_mk2 (Below.trod lo (by kernel_rfl) (of_decide_eq_true (by kernel_rfl)) h0k hg hlt) (shut_string Tryd.underlying9 ws)
    rw [List.append_nil] at h2
    exact h2

set_option maxRecDepth 100000 in
theorem jq_lifted (os : Os) (started : os.Started) (H : Type) (enc : TypeId × Value → H) (F : Stop.Interp) :
    ReturnsInHanded {} Tryd.checked os 4 .any ((Rows.OpenSpec.upto Rows.jsonPrintsSpec).preRow enc Tryd.prog Tryd.f4 Rows.jsonPrintsUptoRow.domain false Rows.jsonPrintsUptoRow.laid) (((Rows.OpenSpec.upto Rows.jsonPrintsSpec).at F).post enc Tryd.prog Tryd.f4 false true false false) := by
  have hx : ∃ places, DataW.whole enc Tryd.prog ((laidWorld os Rows.jsonParsesRow.laid).forCall (fun _ _ => 0) ⟨#[], #[Zero6, .string ⟨#[]⟩], []⟩).memory Tryd.f4.params.toList Rows.jsonPrintsSpec.vars false #[Zero6, .string ⟨#[]⟩].toList 8 = some ([.agg [.lit (.int .i64 0), .lit (.bool false), .lit (.int .i64 0), .lit (.string []), .nil, .nil], .lit (.string [])], [], places) := ⟨[], by kernel_rfl⟩
  obtain ⟨places, hx⟩ := hx
  refine returnsInHanded_of_row (C := Tryd.checked) (s := Rows.OpenSpec.upto Rows.jsonPrintsSpec) own started (by kernel_rfl) Tryd.func4
    (witness_row_at (enc := enc) (C := Tryd.checked) false (laidWorld os Rows.jsonParsesRow.laid) #[Zero6, .string ⟨#[]⟩] rfl (by kernel_rfl) (by kernel_rfl) (by kernel_rfl)
      (OpenSpec.preRow_of_cond 8 hx (by kernel_rfl) (fun k hk => by cases hk; kernel_rfl) (by kernel_rfl) (laid_met os _))) ?_
  intro W base args ds gs before hval hW _ hcond _ hL _ _
  exact jq_contract H enc W base args ds gs before hval hW hL (hcond _ rfl)

theorem jq_said : Rows.JsonPrintsUptoSaid :=
  OpenClaim.holds_of_cond 4 Tryd.f4 rfl rfl rfl rfl rfl rfl rfl ⟨rfl, rfl, rfl, rfl, rfl⟩ rfl rfl rfl rfl rfl (by kernel_rfl) Tryd.func4 (by kernel_rfl)
    (of_decide_eq_true (by kernel_rfl)) (by unfold Func.isWrapper; first | (rw [if_pos (by decide +kernel)]; kernel_rfl) | (rw [if_neg (by decide +kernel)]; exact ⟨rfl, rfl⟩))
    (fun os started H enc _ F => by rw [OpenClaim.pre_eq_preRow]; exact jq_lifted os started H enc F)

theorem jq_plain (f : FuncId) (fn : Func) (hf : Tryd.pinned.checked.prog.funcNamed "boathouse/boathouselaw3.JsonPrints" = some f) (hfn : Tryd.pinned.checked.prog.funcs[f]? = some fn) :
    true = Tryd.pinned.checked.prog.looks [] ∧ ∀ (j : Nat) t, fn.params[j]? = some t → Tryd.pinned.checked.prog.wantsStandIn t = false := by
  obtain rfl : f = 4 := Option.some.inj ((show Tryd.prog.funcNamed "boathouse/boathouselaw3.JsonPrints" = some 4 by kernel_rfl).symm.trans hf) |>.symm
  obtain rfl : fn = Tryd.f4 := (Option.some.inj (Tryd.func4.symm.trans hfn)).symm
  refine ⟨by kernel_rfl, fun j t ht => ?_⟩
  rw [Tryd.params4] at ht
  have hm : t = 25 ∨ t = 9 := by simpa using Array.mem_of_getElem? ht
  rcases hm with rfl | rfl
  · exact (show Tryd.prog.wantsStandIn 25 = false by kernel_rfl)
  · exact (show Tryd.prog.wantsStandIn 9 = false by kernel_rfl)

/-- THE SECOND FORM's CARD -/
theorem jsonPrints_holds : Rows.JsonPrintsUptoCardSaid :=
  Claim7.holds_tied_plain_at .later [] _ _ _ _ jq_said (fun _ h => by cases h) (by kernel_rfl) (fun _ h => by cases h) jsonPrintsUpto_row_tie rfl ⟨rfl, rfl⟩ (by kernel_rfl) rfl jq_plain (by kernel_rfl)

end Go.Proofs.YtbhnfehpbbibbaaDoor
