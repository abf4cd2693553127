/- Package json's parser: hex, for every text and place. Package json's parser: escaped, for every text and place. -/
import Derived.Test.YtbhnfehpbbibbaaDoorM03

namespace Go.Proofs.YtbhnfehpbbibbaaDoor
open Go.RowKit

theorem next_at (g : Nat) (s : ByteArray) (i : Nat) (w : World) (hs : s.size ≤ 140737488351232) (h : PS w g s i) :
    Calls Tryd.prog 26 #[.pointer (some ⟨g, 0, none⟩)] w fun e w' => ∃ C : Int, e = .returned (.int .u8 C) ∧ Hid (C = bt s i) ∧ (0 ≤ C ∧ C < 256) ∧ PS w' g s i ∧ But g w w' := by
  refine (next_any g s i w (by unfold maxLen; omega) h).mono ?_
  rintro e w' ⟨rfl, n, rfl⟩
  exact ⟨_, rfl, rfl, by have := bt_lt s i; omega, h.drewN n, (But.refl _ _).drewN n⟩

theorem hexV_letter : ∀ c < 256, ∀ v, hexV c = some v → ¬ (48 ≤ c ∧ c ≤ 57) → bits .or .u8 (c : Nat) 32 = ((87 + v : Nat) : Int) ∧ 10 ≤ v ∧ v ≤ 15 := by
  intro c hc v hv hn
  have key : ∀ c < 256, ¬ (48 ≤ c ∧ c ≤ 57) → (97 ≤ c ∧ c ≤ 102 ∨ 65 ≤ c ∧ c ≤ 70) → bits .or .u8 (c : Nat) 32 = (if 97 ≤ c then (c : Int) else (c : Int) + 32) := by decide +kernel
  unfold hexV at hv
  rw [if_neg hn] at hv
  split at hv
  · rename_i h; injection hv with hv; rw [key c hc hn (.inl h), if_pos h.1]; omega
  · split at hv
    · rename_i h; injection hv with hv; rw [key c hc hn (.inr h), if_neg (by omega)]; omega
    · cases hv
theorem hexV_none : ∀ c < 256, hexV c = none → ¬ (48 ≤ c ∧ c ≤ 57) ∧ (bits .or .u8 (c : Nat) 32 < 97 ∨ 102 < bits .or .u8 (c : Nat) 32) := by decide +kernel
theorem hexV_digit {c v : Nat} (h : hexV c = some v) (hn : 48 ≤ c ∧ c ≤ 57) : v = c - 48 := by unfold hexV at h; rw [if_pos hn] at h; injection h with h; exact h.symm
theorem hexF_some {s : ByteArray} {n i x v : Nat} (h : hexV (bt s i) = some v) : hexF s (n + 1) i x = hexF s n (i + 1) (16 * x + v) := by simp [hexF, h]
theorem hexF_none {s : ByteArray} {n i x : Nat} (h : hexV (bt s i) = none) : hexF s (n + 1) i x = none := by simp [hexF, h]
theorem pow_bd (k x v : Nat) (hk : k < 4) (hx : x < 16 ^ k) (hv : v < 16) : 16 * x + v < 16 ^ (k + 1) := by rw [Nat.pow_succ]; omega
theorem pow_le (k : Nat) (hk : k ≤ 4) : 16 ^ k ≤ 65536 := by
  rcases k with _ | _ | _ | _ | _ | k <;> first | omega | decide
theorem hexV_lt {c v : Nat} (h : hexV c = some v) : v < 16 := by
  unfold hexV at h
  split at h
  · injection h with h; omega
  · split at h
    · injection h with h; omega
    · split at h
      · injection h with h; omega
      · cases h

def HexPost (g : Nat) (s : ByteArray) (i : Nat) (w : World) (e : Ending) (w' : World) : Prop :=
  match hexS s i with
  | none => Threw g 300 w e w'
  | some r => Took g s w (.int .i64 r) (i + 4) e w'
theorem HexPost.no {g s i w e w'} (h : hexS s i = none) (t : Threw g 300 w e w') : HexPost g s i w e w' := by unfold HexPost; rw [h]; exact t
theorem HexPost.yes {g s i w e w' r} (h : hexS s i = some r) (t : Took g s w (.int .i64 r) (i + 4) e w') : HexPost g s i w e w' := by unfold HexPost; rw [h]; exact t

theorem HexPost.at_none {g s i w e w'} (q : HexPost g s i w e w') (h : hexS s i = none) : Threw g 300 w e w' := by unfold HexPost at q; rw [h] at q; exact q
theorem HexPost.at_some {g s i w e w' r} (q : HexPost g s i w e w') (h : hexS s i = some r) : Took g s w (.int .i64 r) (i + 4) e w' := by unfold HexPost at q; rw [h] at q; exact q

set_option maxHeartbeats 1600000 in
theorem hex_any (g : Nat) (s : ByteArray) (i : Nat) (w : World) (hs : s.size ≤ 140737488351232) (hi : i ≤ 140737488355328) (h : PS w g s i) :
    Calls Tryd.prog 57 #[.pointer (some ⟨g, 0, none⟩)] w (HexPost g s i w) := by
  have HP := Lib.hid h
  clear h
  go_enter Tryd.func57, Tryd.ntmps57
  go_wp2_with fail
  go_loopw [3, 5] (fun v3 v5 wr => ∃ (k x : Nat) (X : Int), v5 = .int .i64 k ∧ v3 = .int .i64 X ∧ k ≤ 4 ∧ 0 ≤ X ∧ X < 65536 ∧ Hid (X = x ∧ x < 16 ^ k ∧ PS wr g s (i + k) ∧ But g w wr ∧ hexS s i = hexF s (4 - k) (i + k) x)) (fun _ v5 _ => 4 - (intOf v5).toNat)
  case atStart => exact ⟨0, 0, 0, rfl, rfl, by omega, by omega, by omega, rfl, by decide, HP.out, But.refl _ _, rfl⟩
  case round =>
    obtain ⟨k, x, X, rfl, rfl, hk, hX0, hX1, H⟩ := hrel
    by_cases hlt : k < 4
    · have hX2 : X < 4096 := by
        have h1 := H.out.2.1; have h2 := H.out.1
        have h3 : 16 ^ k ≤ 4096 := by rcases k with _ | _ | _ | _ | k <;> first | omega | decide
        omega
      go_wp2_with fail
      refine (next_at g s (i + k) _ hs H.out.2.2.1).mono ?_
      rintro e w' ⟨C, rfl, HC, ⟨hC0, hC1⟩, hp, hb⟩
      have HE : Hid (hexS s i = hexF s ((3 - k) + 1) (i + k) x) := by show _ = _; rw [H.out.2.2.2.2, show 4 - k = (3 - k) + 1 from by omega]
      have HPB : Hid (PS w' g s (i + k) ∧ But g w w') := ⟨hp, H.out.2.2.2.1.trans hb⟩
      have HXx : Hid (X = x ∧ x < 16 ^ k) := ⟨H.out.1, H.out.2.1⟩
      clear hp hb H
      have p0 := HPB.out.1.c0
      have p1 := HPB.out.1.c1
      have p2 := HPB.out.1.f1
      cases hv : hexV (bt s (i + k)) with
      | none =>
        have HN : Hid (hexS s i = none) := HE.out.trans (hexF_none hv)
        have hnn := hexV_none (bt s (i + k)) (bt_lt _ _) hv
        rw [← HC.out] at hnn
        have a1 : ¬ (48 ≤ C ∧ C ≤ 57) := by have := HC.out; omega
        obtain ⟨_, a2⟩ := hnn
        clear hv
        obtain ⟨D, hD⟩ : ∃ D : Int, bits .or .u8 C 32 = D := ⟨_, rfl⟩
        rw [hD] at a2
        have t1 : (decide (48 ≤ C) && decide (C ≤ 57)) = false := by simp; omega
        by_cases b1 : 48 ≤ C
        · have b2 : ¬ C ≤ 57 := by omega
          rcases a2 with a2 | a2
          · go_wp2_with fail
            refine (bad_any _).mono ?_
            rintro e w'' ⟨rfl, rfl⟩
            exact ⟨rfl, HexPost.no HN.out ⟨rfl, HPB.out.2⟩⟩
          · go_wp2_with fail
            refine (bad_any _).mono ?_
            rintro e w'' ⟨rfl, rfl⟩
            exact ⟨rfl, HexPost.no HN.out ⟨rfl, HPB.out.2⟩⟩
        · rcases a2 with a2 | a2
          · go_wp2_with fail
            refine (bad_any _).mono ?_
            rintro e w'' ⟨rfl, rfl⟩
            exact ⟨rfl, HexPost.no HN.out ⟨rfl, HPB.out.2⟩⟩
          · go_wp2_with fail
            refine (bad_any _).mono ?_
            rintro e w'' ⟨rfl, rfl⟩
            exact ⟨rfl, HexPost.no HN.out ⟨rfl, HPB.out.2⟩⟩
      | some v =>
        have HS : Hid (hexS s i = hexF s (4 - (k + 1)) (i + (k + 1)) (16 * x + v)) := by show _ = _; rw [HE.out, hexF_some hv, show 4 - (k + 1) = 3 - k from by omega]; rfl
        have hv16 := hexV_lt hv
        have HB : Hid (16 * x + v < 16 ^ (k + 1)) := pow_bd k x v hlt HXx.out.2 hv16
        by_cases hdig : 48 ≤ C ∧ C ≤ 57
        · have hvd := hexV_digit hv (by have := HC.out; omega)
          have HV : Hid (C - 48 = v) := by have := HC.out; show _ = _; omega
          obtain ⟨b1, b2⟩ := hdig
          clear hv hvd
          go_wp2_with fail
          go_roundw
          case rel => exact ⟨k + 1, 16 * x + v, ((16 * x + v : Nat) : Int), by go_num, by have := HV.out; have := HXx.out.1; go_num, by omega, by omega, by have := HB.out; have := pow_le (k + 1) (by omega); omega, rfl, HB.out, HPB.out.1.set _ _ (by go_num), (by have := HPB.out.2; (repeat' (first | (with_reducible exact But.refl _ _) | (with_reducible assumption) | (with_reducible refine But.drewN ?_ _) | (with_reducible refine But.drew ?_) | (with_reducible refine But.alloc ?_ _) | (with_reducible refine But.setOwn ?_ _ _)))), HS.out⟩
          case measure => simp [intOf]; omega
        · obtain ⟨e1, e2, e3⟩ := hexV_letter (bt s (i + k)) (bt_lt _ _) v hv (by have := HC.out; omega)
          rw [← HC.out] at e1
          clear hv
          have t1 : ¬ (48 ≤ C ∧ C ≤ 57) := hdig
          clear hdig
          by_cases b1 : 48 ≤ C
          · have b2 : ¬ C ≤ 57 := by omega
            clear t1
            go_wp2_with fail
            go_roundw
            case rel => exact ⟨k + 1, 16 * x + v, ((16 * x + v : Nat) : Int), by go_num, by have := HXx.out.1; congr 1; omega, by omega, by omega, by have := HB.out; have := pow_le (k + 1) (by omega); omega, rfl, HB.out, HPB.out.1.set _ _ (by go_num), (by have := HPB.out.2; (repeat' (first | (with_reducible exact But.refl _ _) | (with_reducible assumption) | (with_reducible refine But.drewN ?_ _) | (with_reducible refine But.drew ?_) | (with_reducible refine But.alloc ?_ _) | (with_reducible refine But.setOwn ?_ _ _)))), HS.out⟩
            case measure => simp [intOf]; omega
          · clear t1
            go_wp2_with fail
            go_roundw
            case rel => exact ⟨k + 1, 16 * x + v, ((16 * x + v : Nat) : Int), by go_num, by have := HXx.out.1; congr 1; omega, by omega, by omega, by have := HB.out; have := pow_le (k + 1) (by omega); omega, rfl, HB.out, HPB.out.1.set _ _ (by go_num), (by have := HPB.out.2; (repeat' (first | (with_reducible exact But.refl _ _) | (with_reducible assumption) | (with_reducible refine But.drewN ?_ _) | (with_reducible refine But.drew ?_) | (with_reducible refine But.alloc ?_ _) | (with_reducible refine But.setOwn ?_ _ _)))), HS.out⟩
            case measure => simp [intOf]; omega
    · obtain rfl : k = 4 := by omega
      have HF : Hid (hexS s i = some x) := H.out.2.2.2.2
      go_wp2_with fail
      go_ret
      exact HexPost.yes HF.out ⟨by rw [← H.out.1]; rfl, H.out.2.2.1, H.out.2.2.2.1⟩

end Go.Proofs.YtbhnfehpbbibbaaDoor

namespace Go.Proofs.YtbhnfehpbbibbaaDoor
open Go.RowKit

def TextPost (g : Nat) (s : ByteArray) (o : Option (ByteArray × Nat)) (w : World) (e : Ending) (w' : World) : Prop :=
  match o with
  | none => Threw g 300 w e w'
  | some (t, j) => Took g s w (.string t) j e w'
theorem TextPost.no {g s o w e w'} (h : o = none) (t : Threw g 300 w e w') : TextPost g s o w e w' := by rw [h]; exact t
theorem TextPost.yes {g s o w e w' t j} (h : o = some (t, j)) (q : Took g s w (.string t) j e w') : TextPost g s o w e w' := by rw [h]; exact q
theorem TextPost.at_none {g s o w e w'} (q : TextPost g s o w e w') (h : o = none) : Threw g 300 w e w' := by rw [h] at q; exact q
theorem TextPost.at_some {g s o w e w' t j} (q : TextPost g s o w e w') (h : o = some (t, j)) : Took g s w (.string t) j e w' := by rw [h] at q; exact q
theorem Threw.from {g c w w1 e w'} (h : Threw g c w1 e w') (hb : But g w w1) : Threw g c w e w' := ⟨h.val, hb.trans h.but⟩

theorem PS.alloc {w g s i} (h : PS w g s i) (o : Obj) : PS (w.alloc o) g s i := h.below ((Below.refl _ _).alloc (Nat.le_refl _) o)
theorem esc_small {s : ByteArray} {i c : Nat} (t : ByteArray) (h : bt s i = c) (hc : c = 98 ∧ t = ⟨#[8]⟩ ∨ c = 102 ∧ t = ⟨#[12]⟩ ∨ c = 110 ∧ t = ⟨#[10]⟩ ∨ c = 114 ∧ t = ⟨#[13]⟩ ∨ c = 116 ∧ t = ⟨#[9]⟩) : escS s i = some (t, i + 1) := by
  unfold escS; rw [h]
  rcases hc with ⟨rfl, rfl⟩ | ⟨rfl, rfl⟩ | ⟨rfl, rfl⟩ | ⟨rfl, rfl⟩ | ⟨rfl, rfl⟩ <;> rfl
theorem esc_same {s : ByteArray} {i c : Nat} (h : bt s i = c) (hc : c = 34 ∨ c = 92 ∨ c = 47) : escS s i = some (oneB c, i + 1) := by
  unfold escS; rw [h, if_pos hc]
theorem esc_bad {s : ByteArray} {i : Nat} (h : ¬ (bt s i = 34 ∨ bt s i = 92 ∨ bt s i = 47) ∧ bt s i ≠ 98 ∧ bt s i ≠ 102 ∧ bt s i ≠ 110 ∧ bt s i ≠ 114 ∧ bt s i ≠ 116 ∧ bt s i ≠ 117) : escS s i = none := by
  unfold escS
  simp only [if_neg h.1, if_neg h.2.1, if_neg h.2.2.1, if_neg h.2.2.2.1, if_neg h.2.2.2.2.1, if_neg h.2.2.2.2.2.1, if_neg h.2.2.2.2.2.2]
theorem esc_u {s : ByteArray} {i : Nat} (h : bt s i = 117) : escS s i =
    match hexS s (i + 1) with
    | none => none
    | some r =>
      if 55296 ≤ r ∧ r < 56320 then
        if wordB s (i + 5) ⟨#[92, 117]⟩ then
          match hexS s (i + 7) with
          | none => none
          | some low => if 56320 ≤ low ∧ low ≤ 57343 then some (putS ((65536 + (r - 55296) * 1024 + (low - 56320) : Nat) : Int), i + 11) else none
        else none
      else if mayB r then some (putS (r : Int), i + 5) else none := by
  unfold escS; rw [h]; rfl

theorem hexF_lt {s : ByteArray} : ∀ {n i x r : Nat}, hexF s n i x = some r → r < (x + 1) * 16 ^ n
  | 0, i, x, r, h => by simp [hexF] at h; omega
  | n + 1, i, x, r, h => by
    unfold hexF at h
    cases hv : hexV (bt s i) with
    | none => rw [hv] at h; cases h
    | some v =>
      rw [hv] at h
      have h1 := hexF_lt h
      have h2 := hexV_lt hv
      have h3 : (16 * x + v + 1) * 16 ^ n ≤ (16 * (x + 1)) * 16 ^ n := Nat.mul_le_mul_right _ (by omega)
      rw [Nat.pow_succ, ← Nat.mul_assoc, Nat.mul_right_comm, Nat.mul_comm (x + 1) 16]
      exact Nat.lt_of_lt_of_le h1 h3
theorem hexS_lt {s : ByteArray} {i r : Nat} (h : hexS s i = some r) : r < 65536 := by have := hexF_lt h; omega

set_option maxRecDepth 100000 in
set_option maxHeartbeats 4000000 in
theorem escaped_any (g : Nat) (s : ByteArray) (i : Nat) (w : World) (hs : s.size ≤ 140737488351232) (hi : i ≤ 140737488351232) (h : PS w g s i) :
    Calls Tryd.prog 48 #[.pointer (some ⟨g, 0, none⟩)] w (TextPost g s (escS s i) w) := by
  have HP := Lib.hid h
  clear h
  have k1 := conv_1
  go_enter Tryd.func48, Tryd.ntmps48
  go_wp2_with fail
  refine (next_at g s i _ hs HP.out).mono ?_
  rintro e w1 ⟨C, rfl, HC, ⟨hC0, hC1⟩, hp, hb⟩
  have H1 : Hid (PS w1 g s i ∧ But g w w1) := ⟨hp, hb⟩
  have p0 := hp.c0
  have p1 := hp.c1
  have p2 := hp.f1
  have H2 : Hid (PS (w1.setCell ⟨g, 1, none⟩ (.int .i64 (i + 1))) g s (i + 1) ∧ But g w (w1.setCell ⟨g, 1, none⟩ (.int .i64 (i + 1)))) := ⟨hp.set _ _ (by go_num), hb.setOwn _ _⟩
  clear hp hb
  by_cases c1 : C = 34 ∨ C = 92 ∨ C = 47
  · have HE := Lib.hid (esc_same (s := s) (i := i) rfl (by have := HC.out; omega))
    have HO : Hid (oneB (bt s i) = strOfNums [C]) := by show _ = _; rw [HC.out]; rfl
    rcases c1 with rfl | rfl | rfl
    all_goals
      go_wp2_with fail
      go_ret
      exact TextPost.yes HE.out ⟨by rw [HO.out]; rfl, by (repeat' (first | (with_reducible exact H2.out.1) | (with_reducible refine PS.drewN ?_ _) | (with_reducible refine PS.alloc ?_ _))), by (repeat' (first | (with_reducible exact H2.out.2) | (with_reducible refine But.drewN ?_ _) | (with_reducible refine But.drew ?_) | (with_reducible refine But.alloc ?_ _)))⟩
  · by_cases c2 : C = 98 ∨ C = 102 ∨ C = 110 ∨ C = 114 ∨ C = 116
    · rcases c2 with rfl | rfl | rfl | rfl | rfl
      · have HE := Lib.hid (esc_small (s := s) (i := i) (c := 98) ⟨#[8]⟩ (by have := HC.out; omega) (by simp))
        go_wp2_with fail
        go_ret
        exact TextPost.yes HE.out ⟨rfl, by (repeat' (first | (with_reducible exact H2.out.1) | (with_reducible refine PS.drewN ?_ _) | (with_reducible refine PS.alloc ?_ _))), by (repeat' (first | (with_reducible exact H2.out.2) | (with_reducible refine But.drewN ?_ _) | (with_reducible refine But.drew ?_) | (with_reducible refine But.alloc ?_ _)))⟩
      · have HE := Lib.hid (esc_small (s := s) (i := i) (c := 102) ⟨#[12]⟩ (by have := HC.out; omega) (by simp))
        go_wp2_with fail
        go_ret
        exact TextPost.yes HE.out ⟨rfl, by (repeat' (first | (with_reducible exact H2.out.1) | (with_reducible refine PS.drewN ?_ _) | (with_reducible refine PS.alloc ?_ _))), by (repeat' (first | (with_reducible exact H2.out.2) | (with_reducible refine But.drewN ?_ _) | (with_reducible refine But.drew ?_) | (with_reducible refine But.alloc ?_ _)))⟩
      · have HE := Lib.hid (esc_small (s := s) (i := i) (c := 110) ⟨#[10]⟩ (by have := HC.out; omega) (by simp))
        go_wp2_with fail
        go_ret
        exact TextPost.yes HE.out ⟨rfl, by (repeat' (first | (with_reducible exact H2.out.1) | (with_reducible refine PS.drewN ?_ _) | (with_reducible refine PS.alloc ?_ _))), by (repeat' (first | (with_reducible exact H2.out.2) | (with_reducible refine But.drewN ?_ _) | (with_reducible refine But.drew ?_) | (with_reducible refine But.alloc ?_ _)))⟩
      · have HE := Lib.hid (esc_small (s := s) (i := i) (c := 114) ⟨#[13]⟩ (by have := HC.out; omega) (by simp))
        go_wp2_with fail
        go_ret
        exact TextPost.yes HE.out ⟨rfl, by (repeat' (first | (with_reducible exact H2.out.1) | (with_reducible refine PS.drewN ?_ _) | (with_reducible refine PS.alloc ?_ _))), by (repeat' (first | (with_reducible exact H2.out.2) | (with_reducible refine But.drewN ?_ _) | (with_reducible refine But.drew ?_) | (with_reducible refine But.alloc ?_ _)))⟩
      · have HE := Lib.hid (esc_small (s := s) (i := i) (c := 116) ⟨#[9]⟩ (by have := HC.out; omega) (by simp))
        go_wp2_with fail
        go_ret
        exact TextPost.yes HE.out ⟨rfl, by (repeat' (first | (with_reducible exact H2.out.1) | (with_reducible refine PS.drewN ?_ _) | (with_reducible refine PS.alloc ?_ _))), by (repeat' (first | (with_reducible exact H2.out.2) | (with_reducible refine But.drewN ?_ _) | (with_reducible refine But.drew ?_) | (with_reducible refine But.alloc ?_ _)))⟩
    · by_cases c3 : C = 117
      · subst c3
        have HU := Lib.hid (esc_u (s := s) (i := i) (by have := HC.out; omega))
        go_wp2_with fail
        refine (hex_any g s (i + 1) _ hs (by omega) H2.out.1).mono ?_
        intro e w2 hx
        have HX := Lib.hid hx
        clear hx c1 c2
        cases hr : hexS s (i + 1) with
        | none =>
          have ht := HX.out.at_none hr
          have HE : Hid (escS s i = none) := by show _ = _; rw [HU.out, hr]
          obtain ⟨rfl, hb⟩ := ht
          exact ⟨rfl, TextPost.no HE.out ⟨rfl, H2.out.2.trans hb⟩⟩
        | some r =>
          have ht := HX.out.at_some hr
          have HB : Hid (But g w w2 ∧ PS w2 g s (i + 5) ∧ e = .returned (.int .i64 r)) := ⟨H2.out.2.trans ht.but, ht.ps, ht.val⟩
          have HR2 : Hid (escS s i = if 55296 ≤ r ∧ r < 56320 then (if wordB s (i + 5) ⟨#[92, 117]⟩ then (match hexS s (i + 7) with | none => none | some low => if 56320 ≤ low ∧ low ≤ 57343 then some (putS ((65536 + (r - 55296) * 1024 + (low - 56320) : Nat) : Int), i + 11) else none) else none) else if mayB r then some (putS (r : Int), i + 5) else none) := by show _ = _; rw [HU.out, hr]
          have hrl := Lib.hid (hexS_lt hr)
          obtain ⟨R, hR⟩ : ∃ R : Int, R = r := ⟨_, rfl⟩
          obtain rfl : e = .returned (.int .i64 R) := by rw [hR]; exact HB.out.2.2
          have HR := Lib.hid hR
          have hR0 : 0 ≤ R := by omega
          have hR1 : R < 65536 := by have := hrl.out; omega
          clear ht hr HX HU hR p0 p1 p2
          by_cases s1 : 55296 ≤ R ∧ R < 56320
          · obtain ⟨s2, s3⟩ := s1
            cases hwd : wordB s (i + 5) ⟨#[92, 117]⟩ with
            | false =>
              have HE : Hid (escS s i = none) := by show _ = _; rw [HR2.out, if_pos (by have := HR.out; omega), hwd]; rfl
              have HW := Lib.hid hwd
              clear hwd
              go_wp2_with fail
              refine (word_err g s ⟨#[92, 117]⟩ (i + 5) _ hs (by decide) HB.out.2.1 HW.out).mono ?_
              rintro e w3 ⟨rfl, hb⟩
              exact ⟨rfl, TextPost.no HE.out ⟨rfl, HB.out.1.trans hb⟩⟩
            | true =>
              have HR3 : Hid (escS s i = (match hexS s (i + 7) with | none => none | some low => if 56320 ≤ low ∧ low ≤ 57343 then some (putS ((65536 + (r - 55296) * 1024 + (low - 56320) : Nat) : Int), i + 11) else none)) := by show _ = _; rw [HR2.out, if_pos (by have := HR.out; omega), if_pos hwd]
              have HW := Lib.hid hwd
              clear hwd
              go_wp2_with fail
              refine (word_ok g s ⟨#[92, 117]⟩ (i + 5) _ hs (by decide) HB.out.2.1 HW.out).mono ?_
              rintro e w3 ⟨rfl, hp, hb⟩
              have HB3 : Hid (But g w w3 ∧ PS w3 g s (i + 7)) := ⟨HB.out.1.trans hb, hp⟩
              clear hp hb
              go_wp2_with fail
              refine (hex_any g s (i + 7) _ hs (by omega) HB3.out.2).mono ?_
              intro e w4 hx
              have HX := Lib.hid hx
              clear hx
              cases hr : hexS s (i + 7) with
              | none =>
                have ht := HX.out.at_none hr
                have HE : Hid (escS s i = none) := by show _ = _; rw [HR3.out, hr]
                obtain ⟨rfl, hb⟩ := ht
                exact ⟨rfl, TextPost.no HE.out ⟨rfl, HB3.out.1.trans hb⟩⟩
              | some low =>
                have ht := HX.out.at_some hr
                have HB4 : Hid (But g w w4 ∧ PS w4 g s (i + 11) ∧ e = .returned (.int .i64 low)) := ⟨HB3.out.1.trans ht.but, ht.ps, ht.val⟩
                have HR4 : Hid (escS s i = if 56320 ≤ low ∧ low ≤ 57343 then some (putS ((65536 + (r - 55296) * 1024 + (low - 56320) : Nat) : Int), i + 11) else none) := by show _ = _; rw [HR3.out, hr]
                have hll := Lib.hid (hexS_lt hr)
                obtain ⟨L, hL⟩ : ∃ L : Int, L = low := ⟨_, rfl⟩
                obtain rfl : e = .returned (.int .i64 L) := by rw [hL]; exact HB4.out.2.2
                have HL := Lib.hid hL
                have hL0 : 0 ≤ L := by omega
                have hL1 : L < 65536 := by have := hll.out; omega
                clear ht hr HX hL
                by_cases s4 : 56320 ≤ L ∧ L ≤ 57343
                · have HE : Hid (escS s i = some (putS (65536 + (R - 55296) * 1024 + L - 56320), i + 11)) := by
                    show _ = _
                    have e1 := HL.out; have e2 := HR.out
                    have e3 : ((65536 + (r - 55296) * 1024 + (low - 56320) : Nat) : Int) = 65536 + (R - 55296) * 1024 + L - 56320 := by omega
                    rw [HR4.out, if_pos (by omega), e3]
                  have HM : Hid (mayB (65536 + (R - 55296) * 1024 + L - 56320).toNat = true) := by
                    show _ = _
                    simp only [mayB, decide_eq_true_eq]; omega
                  obtain ⟨s5, s6⟩ := s4
                  go_wp2_with fail
                  refine (put_yes _ _ (by omega) HM.out).mono ?_
                  rintro e w5 ⟨rfl, hb⟩
                  have H2 : Hid (PS w5 g s (i + 11) ∧ But g w w5) := ⟨HB4.out.2.1.below hb, HB4.out.1.trans (.below hb)⟩
                  go_wp2_with fail
                  go_ret
                  exact TextPost.yes HE.out ⟨rfl, H2.out.1, H2.out.2⟩
                · have HE : Hid (escS s i = none) := by show _ = _; rw [HR4.out, if_neg (by have := HL.out; omega)]
                  by_cases s5 : L < 56320
                  · go_wp2_with fail
                    refine (bad_any _).mono ?_
                    rintro e w5 ⟨rfl, rfl⟩
                    exact ⟨rfl, TextPost.no HE.out ⟨rfl, HB4.out.1⟩⟩
                  · have s6 : 57343 < L := by omega
                    go_wp2_with fail
                    refine (bad_any _).mono ?_
                    rintro e w5 ⟨rfl, rfl⟩
                    exact ⟨rfl, TextPost.no HE.out ⟨rfl, HB4.out.1⟩⟩
          · have HR5 : Hid (escS s i = if mayB r then some (putS (r : Int), i + 5) else none) := by show _ = _; rw [HR2.out, if_neg (by have := HR.out; omega)]
            have step : Hid (∀ m, mayB R.toNat = m → mayB r = m) := fun m h => by rw [← h, HR.out, Int.toNat_natCast]
            have t1 : (decide (55296 ≤ R) && decide (R < 56320)) = false := by simp; omega
            cases hm : mayB R.toNat with
            | true =>
              have HE : Hid (escS s i = some (putS R, i + 5)) := by show _ = _; rw [HR5.out, step.out _ hm, HR.out]; rfl
              have HM := Lib.hid hm
              clear hm
              by_cases s2 : 55296 ≤ R
              · have s3 : ¬ R < 56320 := fun h => s1 ⟨s2, h⟩
                go_wp2_with fail
                refine (put_yes _ _ (by omega) HM.out).mono ?_
                rintro e w5 ⟨rfl, hb⟩
                have H2 : Hid (PS w5 g s (i + 5) ∧ But g w w5) := ⟨HB.out.2.1.below hb, HB.out.1.trans (.below hb)⟩
                go_wp2_with fail
                go_ret
                exact TextPost.yes HE.out ⟨rfl, H2.out.1, H2.out.2⟩
              · go_wp2_with fail
                refine (put_yes _ _ (by omega) HM.out).mono ?_
                rintro e w5 ⟨rfl, hb⟩
                have H2 : Hid (PS w5 g s (i + 5) ∧ But g w w5) := ⟨HB.out.2.1.below hb, HB.out.1.trans (.below hb)⟩
                go_wp2_with fail
                go_ret
                exact TextPost.yes HE.out ⟨rfl, H2.out.1, H2.out.2⟩
            | false =>
              have HE : Hid (escS s i = none) := by show _ = _; rw [HR5.out, step.out _ hm]; rfl
              have HM := Lib.hid hm
              clear hm
              by_cases s2 : 55296 ≤ R
              · have s3 : ¬ R < 56320 := fun h => s1 ⟨s2, h⟩
                go_wp2_with fail
                refine (put_no _ _ (by omega) HM.out).mono ?_
                rintro e w5 ⟨rfl, hb⟩
                go_wp2_with fail
                refine (bad_any _).mono ?_
                rintro e w6 ⟨rfl, rfl⟩
                exact ⟨rfl, TextPost.no HE.out ⟨rfl, HB.out.1.trans (.below hb)⟩⟩
              · go_wp2_with fail
                refine (put_no _ _ (by omega) HM.out).mono ?_
                rintro e w5 ⟨rfl, hb⟩
                go_wp2_with fail
                refine (bad_any _).mono ?_
                rintro e w6 ⟨rfl, rfl⟩
                exact ⟨rfl, TextPost.no HE.out ⟨rfl, HB.out.1.trans (.below hb)⟩⟩
      · have HE := Lib.hid (esc_bad (s := s) (i := i) (by have := HC.out; omega))
        have n1 : C ≠ 34 := by omega
        have n2 : C ≠ 92 := by omega
        have n3 : C ≠ 47 := by omega
        have n4 : C ≠ 98 := by omega
        have n5 : C ≠ 102 := by omega
        have n6 : C ≠ 110 := by omega
        have n7 : C ≠ 114 := by omega
        have n8 : C ≠ 116 := by omega
        clear c1 c2
        go_wp2_with fail
        refine (bad_any _).mono ?_
        rintro e w6 ⟨rfl, rfl⟩
        exact ⟨rfl, TextPost.no HE.out ⟨rfl, H2.out.2⟩⟩

end Go.Proofs.YtbhnfehpbbibbaaDoor
