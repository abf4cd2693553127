/- The reference's Decimal: every int's decimal digits, as the library's law writes them. The reference's parser: hex, for every text and place. -/
import Derived.Test.YtbhnfehpbbibbaaDoorM14
import Derived.Laws.AppendOwnNone
import Derived.Lib.ItoaLen
import Derived.Test.YtbhnfehpbbibbaaDoorM09

namespace Go.Proofs.YtbhnfehpbbibbaaDoor
open Go.RowKit

theorem dec_small {u : Nat} (h : u < 10) : Lib.decDigits u = [UInt8.ofNat (48 + u)] := by rw [Lib.decDigits, dif_pos h]
theorem dec_big {u : Nat} (h : ¬ u < 10) : Lib.decDigits u = Lib.decDigits (u / 10) ++ [UInt8.ofNat (48 + u % 10)] := by rw [Lib.decDigits, dif_neg h]
theorem dec_ne (u : Nat) : Lib.decDigits u ≠ [] := by
  by_cases h : u < 10
  · rw [dec_small h]; simp
  · rw [dec_big h]; simp
/-- what holds of the number left and the digits read off -/
def DecI (N u : Nat) (acc : List UInt8) : Prop := (u = 0 ∧ acc = Lib.decDigits N) ∨ ((0 < u ∨ acc = []) ∧ Lib.decDigits u ++ acc = Lib.decDigits N)
theorem DecI.step {N u : Nat} {acc : List UInt8} (h : Lib.decDigits u ++ acc = Lib.decDigits N) : DecI N (u / 10) (UInt8.ofNat (48 + u % 10) :: acc) := by
  by_cases hu : u < 10
  · refine .inl ⟨by omega, ?_⟩
    rw [dec_small hu] at h
    rw [← h, Nat.mod_eq_of_lt hu]; rfl
  · refine .inr ⟨.inl (by omega), ?_⟩
    rw [dec_big hu] at h
    rw [← h, List.append_assoc]; rfl
theorem dec_len {N : Nat} (h : N < 18446744073709551616) : (Lib.decDigits N).length ≤ 20 := by
  rw [Lib.decDigits_eq, List.length_map, List.length_range]
  exact Lib.nDigits_le20 N h

theorem brow_cells {w : World} {base : Nat} {g n c : Nat} {acc : List UInt8} (h : BRow w base (.slice (some ⟨g, 0, none⟩) n c) acc) : ∀ (j : Nat) (u : Value), (acc.map fun b => Value.int .u8 b.toNat)[j]? = some u → w.cell? ((⟨g, 0, none⟩ : Addr).add j) = some u := World.ownsRow.cells (g := g) h rfl
theorem brow_some {w : World} {base : Nat} {v : Value} {acc : List UInt8} (h : BRow w base v acc) (hne : acc ≠ []) : ∃ g c, v = .slice (some ⟨g, 0, none⟩) acc.length c := by
  obtain ⟨h1, h2⟩ := h
  rcases h2 with ⟨rfl, h2⟩ | ⟨g, cap, cur, rfl, _⟩
  · exact absurd (List.eq_nil_of_length_eq_zero h2) hne
  · exact ⟨g, cap, rfl⟩

set_option maxRecDepth 100000 in
set_option maxHeartbeats 4000000 in
theorem decimal_pos (N : Nat) (w : World) (h1 : N ≤ 9223372036854775807) :
    Calls Tryd.prog 43 #[.int .i64 (N : Int)] w fun e w' => e = .returned (.string ⟨(Lib.decDigits N).toArray⟩) ∧ Below w.heap.size w w' := by
  obtain ⟨i0, hinfo, hz0, hz1, hz2⟩ := info_parts uinfo
  have HL := Lib.hid (dec_len (show N < 18446744073709551616 by omega))
  have e1 : IntKind.u64.wrap (N : Int) = (N : Int) := by rw [IntKind.wrap_u64]; omega
  go_enter Tryd.func43, Tryd.ntmps43
  go_wp2_with fail
  go_loopg [3, 4] (21) (fun nn v3 v4 wr => ∃ (u : Nat) (acc : List UInt8), v3 = .int .u64 u ∧ u ≤ N ∧ acc.length ≤ 20 ∧ nn = 21 - acc.length ∧ Hid (DecI N u acc ∧ (acc = [] → v4 = .slice none 0 0) ∧ BRow wr w.heap.size v4 acc ∧ Below w.heap.size w wr))
  case atStart => exact ⟨N, [], rfl, Nat.le_refl _, by simp, rfl, .inr ⟨.inr rfl, by simp⟩, fun _ => rfl, BRow.nil _ _, Below.refl _ _⟩
  case round =>
    obtain ⟨u, acc, rfl, hu, hacc, hn, H⟩ := hrel
    have HN := Lib.hid hn
    clear hn
    have hz := H.out.2.2.2.size
    rcases H.out.1 with ⟨rfl, hfin⟩ | ⟨hgo, hdig⟩
    case inl =>
      obtain ⟨g4, c4, hv4⟩ := brow_some H.out.2.2.1 (by rw [hfin]; exact dec_ne N)
      subst hv4
      have hlen : ((acc.length : Int) == 0) = false := beq_eq_false_iff_ne.2 (by have := dec_ne N; rw [← hfin] at this; have := List.length_pos_iff.2 this; omega)
      have HF := Lib.hid hfin
      clear hfin
      have hconv := H.out.2.2.1.text
      go_wp2_with fail
      go_ret
      exact ⟨by rw [HF.out]; rfl, H.out.2.2.2⟩
    case inr =>
      have HD : Hid (DecI N (u / 10) (UInt8.ofNat (48 + u % 10) :: acc)) := DecI.step hdig
      have hlen1 : acc.length < 20 := by
        have h1 := HL.out
        have h2 := congrArg List.length hdig
        have h3 := List.length_pos_iff.2 (dec_ne u)
        rw [List.length_append] at h2; omega
      have HV : Hid (((UInt8.ofNat (48 + u % 10)).toNat : Int) = 48 + (u : Int) % 10) := by
        show _ = _
        rw [UInt8.toNat_ofNat']; omega
      have f1 : IntKind.u64.wrap (48 + (u : Int) % 10) = 48 + (u : Int) % 10 := by rw [IntKind.wrap_u64]; omega
      have f2 : IntKind.u8.wrap (48 + (u : Int) % 10) = 48 + (u : Int) % 10 := IntWalk.u8_in _ ⟨by omega, by omega⟩
      have HG := Lib.hid hgo
      clear hdig hgo
      have HFO := Lib.hid (fresh_own wr w.heap.size hz [UInt8.ofNat (48 + u % 10)] #[.int .u8 (48 + (u : Int) % 10)] (by rw [← HV.out]; rfl) (by simp) (by simp))
      by_cases hnil : acc = []
      case pos =>
        obtain rfl := H.out.2.1 hnil
        subst hnil
        have HB : Hid (BRow (wr.alloc (.cells #[.int .u8 (48 + (u : Int) % 10)] 5)) w.heap.size (.slice (some ⟨wr.heap.size, 0, none⟩) 1 1) [UInt8.ofNat (48 + u % 10)] ∧ Below w.heap.size w (wr.alloc (.cells #[.int .u8 (48 + (u : Int) % 10)] 5))) := ⟨HFO.out, H.out.2.2.2.trans (((Below.refl _ _).alloc (Nat.le_refl _) _).mono hz)⟩
        by_cases hu0 : 0 < u
        case pos =>
          have b1 : decide ((0 : Int) < u) = true := decide_eq_true (by omega)
          go_wp2_with (at_builtin; refine wpList_append_own_none rfl _ _ 53 rfl w.heap.size 5 i0 1 Tryd.underlying53 hinfo (.slice (some ⟨wr.heap.size, 0, none⟩) 1 1) 1 _ rfl HFO.out rfl ?_)
          go_wp2_with fail
          go_roundg (21 - (([] : List UInt8).length + 1))
          case measure => have := HN.out; omega
          case rel => exact ⟨u / 10, UInt8.ofNat (48 + u % 10) :: ([] : List UInt8), by go_num, by omega, by rw [List.length_cons]; omega, by rw [List.length_cons], HD.out, (fun h => by cases h), HB.out.1, HB.out.2⟩
        case neg =>
          have b1 : decide ((0 : Int) < u) = false := decide_eq_false (by omega)
          go_wp2_with (at_builtin; refine wpList_append_own_none rfl _ _ 53 rfl w.heap.size 5 i0 1 Tryd.underlying53 hinfo (.slice (some ⟨wr.heap.size, 0, none⟩) 1 1) 1 _ rfl HFO.out rfl ?_)
          go_wp2_with fail
          go_roundg (21 - (([] : List UInt8).length + 1))
          case measure => have := HN.out; omega
          case rel => exact ⟨u / 10, UInt8.ofNat (48 + u % 10) :: ([] : List UInt8), by go_num, by omega, by rw [List.length_cons]; omega, by rw [List.length_cons], HD.out, (fun h => by cases h), HB.out.1, HB.out.2⟩
      case neg =>
        have hup : 0 < u := by rcases HG.out with h | h; exact h; exact absurd h hnil
        have b1 : decide ((0 : Int) < u) = true := decide_eq_true (by omega)
        obtain ⟨g4, c4, hv4⟩ := brow_some H.out.2.2.1 hnil
        subst hv4
        have HA : Hid (0 < acc.length) := List.length_pos_iff.2 hnil
        have HC : Hid (∀ (j : Nat) (v : Value), (acc.map fun b => Value.int .u8 b.toNat)[j]? = some v → (wr.alloc (.cells #[.int .u8 (48 + (u : Int) % 10)] 5)).cell? ((⟨g4, 0, none⟩ : Addr).add j) = some v) := brow_cells (H.out.2.2.1.below ((Below.refl _ _).alloc (Nat.le_refl _) _))
        clear hnil
        go_wp2_with (at_builtin; refine wpList_append_lies _ rfl _ _ 53 rfl w.heap.size 5 i0 _ 1 1 Tryd.underlying53 hinfo hz0 hz1 hz2 rfl (by omega) (.slice (some ⟨wr.heap.size, 0, none⟩) 1 1) 1 _ rfl HFO.out ⟨g4, 0, none⟩ acc.length c4 (acc.map fun b => Value.int .u8 b.toNat) rfl (by rw [List.length_map, Nat.mul_one]) HC.out (by intro v hv; simp only [List.mem_map] at hv; obtain ⟨b, _, rfl⟩ := hv; rfl) HA.out (by unfold maxLen; omega) (by omega) (by rw [World.size_alloc]; omega) (wr.heap.size + 1) (by simp) ?_)
        intro gg cap w5 hown hgr _ _
        have HB : Hid (BRow w5 w.heap.size (.slice (some ⟨gg, 0, none⟩) (1 + acc.length) cap) (UInt8.ofNat (48 + u % 10) :: acc) ∧ Below w.heap.size w w5) := by
          refine ⟨brow_app (acc := [UInt8.ofNat (48 + u % 10)]) (l := acc) hown rfl rfl, below_grown (H.out.2.2.2.trans (((Below.refl _ _).alloc (Nat.le_refl _) _).mono hz)) hgr (Nat.le_refl _) (fun j hj => ?_)⟩
          injection hj with hj; simp only at hj; omega
        clear hown hgr
        go_wp2_with fail
        go_roundg (21 - (acc.length + 1))
        case measure => have := HN.out; omega
        case rel => exact ⟨u / 10, UInt8.ofNat (48 + u % 10) :: acc, by go_num, by omega, by rw [List.length_cons]; omega, by rw [List.length_cons], HD.out, (fun h => by cases h), HB.out.1, HB.out.2⟩

set_option maxRecDepth 100000 in
set_option maxHeartbeats 4000000 in
theorem decimal_neg (N : Nat) (w : World) (h1 : 0 < N ∧ N ≤ 9223372036854775808) :
    Calls Tryd.prog 43 #[.int .i64 (-(N : Int))] w fun e w' => e = .returned (.string ⟨(45 :: Lib.decDigits N).toArray⟩) ∧ Below w.heap.size w w' := by
  obtain ⟨i0, hinfo, hz0, hz1, hz2⟩ := info_parts uinfo
  have HL := Lib.hid (dec_len (show N < 18446744073709551616 by omega))
  obtain ⟨h1, h2⟩ := h1
  obtain ⟨M, hM⟩ : ∃ M : Int, M = -(N : Int) := ⟨_, rfl⟩
  rw [← hM]
  have m0 : M < 0 := by omega
  have m1 : -9223372036854775808 ≤ M := by omega
  have e1 : IntKind.u64.wrap M = M + 18446744073709551616 := by rw [IntKind.wrap_u64]; omega
  have e2 : IntKind.i64.wrap (-(M + 1)) = -(M + 1) := IntWalk.i64_in _ ⟨by omega, by omega⟩
  have e3 : IntKind.u64.wrap (-(M + 1)) = -(M + 1) := by rw [IntKind.wrap_u64]; omega
  have e4 : IntKind.u64.wrap (-(M + 1) + 1) = (N : Int) := by rw [IntKind.wrap_u64]; omega
  have HM := Lib.hid hM
  clear hM
  go_enter Tryd.func43, Tryd.ntmps43
  go_wp2_with fail
  go_loopg [3, 4] (21) (fun nn v3 v4 wr => ∃ (u : Nat) (acc : List UInt8), v3 = .int .u64 u ∧ u ≤ N ∧ acc.length ≤ 20 ∧ nn = 21 - acc.length ∧ Hid (DecI N u acc ∧ (acc = [] → v4 = .slice none 0 0) ∧ BRow wr w.heap.size v4 acc ∧ Below w.heap.size w wr))
  case atStart => exact ⟨N, [], rfl, Nat.le_refl _, by simp, rfl, .inr ⟨.inr rfl, by simp⟩, fun _ => rfl, BRow.nil _ _, Below.refl _ _⟩
  case round =>
    obtain ⟨u, acc, rfl, hu, hacc, hn, H⟩ := hrel
    have HN := Lib.hid hn
    clear hn
    have hz := H.out.2.2.2.size
    rcases H.out.1 with ⟨rfl, hfin⟩ | ⟨hgo, hdig⟩
    case inl =>
      obtain ⟨g4, c4, hv4⟩ := brow_some H.out.2.2.1 (by rw [hfin]; exact dec_ne N)
      subst hv4
      have hlen : ((acc.length : Int) == 0) = false := beq_eq_false_iff_ne.2 (by have := dec_ne N; rw [← hfin] at this; have := List.length_pos_iff.2 this; omega)
      have HF := Lib.hid hfin
      clear hfin
      have HFO := Lib.hid (fresh_own wr w.heap.size hz [45] #[.int .u8 45] rfl (by decide) (by decide))
      have HC : Hid (∀ (j : Nat) (u : Value), (acc.map fun b => Value.int .u8 b.toNat)[j]? = some u → (wr.alloc (.cells #[.int .u8 45] 5)).cell? ((⟨g4, 0, none⟩ : Addr).add j) = some u) := brow_cells (H.out.2.2.1.below ((Below.refl _ _).alloc (Nat.le_refl _) _))
      have HA : Hid (0 < acc.length) := by show _ < _; have := dec_ne N; rw [← HF.out] at this; exact List.length_pos_iff.2 this
      go_wp2_with (at_builtin; refine wpList_append_lies _ rfl _ _ 53 rfl w.heap.size 5 i0 _ 1 1 Tryd.underlying53 hinfo hz0 hz1 hz2 rfl (by omega) (.slice (some ⟨wr.heap.size, 0, none⟩) 1 1) 1 _ rfl HFO.out ⟨g4, 0, none⟩ acc.length c4 (acc.map fun b => Value.int .u8 b.toNat) rfl (by rw [List.length_map, Nat.mul_one]) HC.out (by intro v hv; simp only [List.mem_map] at hv; obtain ⟨b, _, rfl⟩ := hv; rfl) HA.out (by unfold maxLen; omega) (by omega) (by rw [World.size_alloc]; omega) (wr.heap.size + 1) (by simp) ?_)
      intro gg cap w5 hown hgr _ _
      have HB : Hid (BRow w5 w.heap.size (.slice (some ⟨gg, 0, none⟩) (1 + acc.length) cap) (45 :: acc) ∧ Below w.heap.size w w5) := by
        refine ⟨brow_app (acc := [45]) (l := acc) hown rfl rfl, below_grown (H.out.2.2.2.trans (((Below.refl _ _).alloc (Nat.le_refl _) _).mono hz)) hgr (Nat.le_refl _) (fun j hj => ?_)⟩
        injection hj with hj; simp only at hj; omega
      have hconv := HB.out.1.text
      clear hown hgr
      go_wp2_with fail
      go_ret
      exact ⟨by rw [HF.out]; rfl, HB.out.2⟩
    case inr =>
      have HD : Hid (DecI N (u / 10) (UInt8.ofNat (48 + u % 10) :: acc)) := DecI.step hdig
      have hlen1 : acc.length < 20 := by
        have h1 := HL.out
        have h2 := congrArg List.length hdig
        have h3 := List.length_pos_iff.2 (dec_ne u)
        rw [List.length_append] at h2; omega
      have HV : Hid (((UInt8.ofNat (48 + u % 10)).toNat : Int) = 48 + (u : Int) % 10) := by
        show _ = _
        rw [UInt8.toNat_ofNat']; omega
      have f1 : IntKind.u64.wrap (48 + (u : Int) % 10) = 48 + (u : Int) % 10 := by rw [IntKind.wrap_u64]; omega
      have f2 : IntKind.u8.wrap (48 + (u : Int) % 10) = 48 + (u : Int) % 10 := IntWalk.u8_in _ ⟨by omega, by omega⟩
      have HG := Lib.hid hgo
      clear hdig hgo
      have HFO := Lib.hid (fresh_own wr w.heap.size hz [UInt8.ofNat (48 + u % 10)] #[.int .u8 (48 + (u : Int) % 10)] (by rw [← HV.out]; rfl) (by simp) (by simp))
      by_cases hnil : acc = []
      case pos =>
        obtain rfl := H.out.2.1 hnil
        subst hnil
        have HB : Hid (BRow (wr.alloc (.cells #[.int .u8 (48 + (u : Int) % 10)] 5)) w.heap.size (.slice (some ⟨wr.heap.size, 0, none⟩) 1 1) [UInt8.ofNat (48 + u % 10)] ∧ Below w.heap.size w (wr.alloc (.cells #[.int .u8 (48 + (u : Int) % 10)] 5))) := ⟨HFO.out, H.out.2.2.2.trans (((Below.refl _ _).alloc (Nat.le_refl _) _).mono hz)⟩
        by_cases hu0 : 0 < u
        case pos =>
          have b1 : decide ((0 : Int) < u) = true := decide_eq_true (by omega)
          go_wp2_with (at_builtin; refine wpList_append_own_none rfl _ _ 53 rfl w.heap.size 5 i0 1 Tryd.underlying53 hinfo (.slice (some ⟨wr.heap.size, 0, none⟩) 1 1) 1 _ rfl HFO.out rfl ?_)
          go_wp2_with fail
          go_roundg (21 - (([] : List UInt8).length + 1))
          case measure => have := HN.out; omega
          case rel => exact ⟨u / 10, UInt8.ofNat (48 + u % 10) :: ([] : List UInt8), by go_num, by omega, by rw [List.length_cons]; omega, by rw [List.length_cons], HD.out, (fun h => by cases h), HB.out.1, HB.out.2⟩
        case neg =>
          have b1 : decide ((0 : Int) < u) = false := decide_eq_false (by omega)
          go_wp2_with (at_builtin; refine wpList_append_own_none rfl _ _ 53 rfl w.heap.size 5 i0 1 Tryd.underlying53 hinfo (.slice (some ⟨wr.heap.size, 0, none⟩) 1 1) 1 _ rfl HFO.out rfl ?_)
          go_wp2_with fail
          go_roundg (21 - (([] : List UInt8).length + 1))
          case measure => have := HN.out; omega
          case rel => exact ⟨u / 10, UInt8.ofNat (48 + u % 10) :: ([] : List UInt8), by go_num, by omega, by rw [List.length_cons]; omega, by rw [List.length_cons], HD.out, (fun h => by cases h), HB.out.1, HB.out.2⟩
      case neg =>
        have hup : 0 < u := by rcases HG.out with h | h; exact h; exact absurd h hnil
        have b1 : decide ((0 : Int) < u) = true := decide_eq_true (by omega)
        obtain ⟨g4, c4, hv4⟩ := brow_some H.out.2.2.1 hnil
        subst hv4
        have HA : Hid (0 < acc.length) := List.length_pos_iff.2 hnil
        have HC : Hid (∀ (j : Nat) (v : Value), (acc.map fun b => Value.int .u8 b.toNat)[j]? = some v → (wr.alloc (.cells #[.int .u8 (48 + (u : Int) % 10)] 5)).cell? ((⟨g4, 0, none⟩ : Addr).add j) = some v) := brow_cells (H.out.2.2.1.below ((Below.refl _ _).alloc (Nat.le_refl _) _))
        clear hnil
        go_wp2_with (at_builtin; refine wpList_append_lies _ rfl _ _ 53 rfl w.heap.size 5 i0 _ 1 1 Tryd.underlying53 hinfo hz0 hz1 hz2 rfl (by omega) (.slice (some ⟨wr.heap.size, 0, none⟩) 1 1) 1 _ rfl HFO.out ⟨g4, 0, none⟩ acc.length c4 (acc.map fun b => Value.int .u8 b.toNat) rfl (by rw [List.length_map, Nat.mul_one]) HC.out (by intro v hv; simp only [List.mem_map] at hv; obtain ⟨b, _, rfl⟩ := hv; rfl) HA.out (by unfold maxLen; omega) (by omega) (by rw [World.size_alloc]; omega) (wr.heap.size + 1) (by simp) ?_)
        intro gg cap w5 hown hgr _ _
        have HB : Hid (BRow w5 w.heap.size (.slice (some ⟨gg, 0, none⟩) (1 + acc.length) cap) (UInt8.ofNat (48 + u % 10) :: acc) ∧ Below w.heap.size w w5) := by
          refine ⟨brow_app (acc := [UInt8.ofNat (48 + u % 10)]) (l := acc) hown rfl rfl, below_grown (H.out.2.2.2.trans (((Below.refl _ _).alloc (Nat.le_refl _) _).mono hz)) hgr (Nat.le_refl _) (fun j hj => ?_)⟩
          injection hj with hj; simp only at hj; omega
        clear hown hgr
        go_wp2_with fail
        go_roundg (21 - (acc.length + 1))
        case measure => have := HN.out; omega
        case rel => exact ⟨u / 10, UInt8.ofNat (48 + u % 10) :: acc, by go_num, by omega, by rw [List.length_cons]; omega, by rw [List.length_cons], HD.out, (fun h => by cases h), HB.out.1, HB.out.2⟩

theorem decimal_any (n : Int) (w : World) (h0 : -9223372036854775808 ≤ n) (h1 : n ≤ 9223372036854775807) :
    Calls Tryd.prog 43 #[.int .i64 n] w fun e w' => e = .returned (.string ⟨(Lib.itoa n).toArray⟩) ∧ Below w.heap.size w w' := by
  by_cases hn : n < 0
  · have e1 : n = -((n.natAbs : Nat) : Int) := by omega
    have := decimal_neg n.natAbs w ⟨by omega, by omega⟩
    rw [← e1] at this
    unfold Lib.itoa
    rw [if_pos hn]; exact this
  · have e1 : n = ((n.toNat : Nat) : Int) := by omega
    have := decimal_pos n.toNat w (by omega)
    rw [← e1] at this
    unfold Lib.itoa
    rw [if_neg hn]; exact this

end Go.Proofs.YtbhnfehpbbibbaaDoor

namespace Go.Proofs.YtbhnfehpbbibbaaDoor
open Go.RowKit

def RHexPost (g : Nat) (s : ByteArray) (i : Nat) (c : Int) (w : World) (e : Ending) (w' : World) : Prop :=
  match hexS s i with
  | none => Got g s w (.int .i64 (-1)) i c e w'
  | some r => Got g s w (.int .i64 r) (i + 4) c e w'
theorem RHexPost.no {g s i c w e w'} (h : hexS s i = none) (t : Got g s w (.int .i64 (-1)) i c e w') : RHexPost g s i c w e w' := by unfold RHexPost; rw [h]; exact t
theorem RHexPost.yes {g s i c w e w' r} (h : hexS s i = some r) (t : Got g s w (.int .i64 r) (i + 4) c e w') : RHexPost g s i c w e w' := by unfold RHexPost; rw [h]; exact t
theorem RHexPost.at_none {g s i c w e w'} (q : RHexPost g s i c w e w') (h : hexS s i = none) : Got g s w (.int .i64 (-1)) i c e w' := by unfold RHexPost at q; rw [h] at q; exact q
theorem RHexPost.at_some {g s i c w e w' r} (q : RHexPost g s i c w e w') (h : hexS s i = some r) : Got g s w (.int .i64 r) (i + 4) c e w' := by unfold RHexPost at q; rw [h] at q; exact q

theorem hexV_cases {c : Nat} : (∃ v, hexV c = some v ∧ (48 ≤ c ∧ c ≤ 57 ∧ v + 48 = c ∨ 97 ≤ c ∧ c ≤ 102 ∧ v + 87 = c ∨ 65 ≤ c ∧ c ≤ 70 ∧ v + 55 = c)) ∨ (hexV c = none ∧ (c < 48 ∨ 57 < c ∧ c < 65 ∨ 70 < c ∧ c < 97 ∨ 102 < c)) := by
  unfold hexV
  split
  · left; exact ⟨_, rfl, by omega⟩
  · split
    · left; exact ⟨_, rfl, by omega⟩
    · split
      · left; exact ⟨_, rfl, by omega⟩
      · right; exact ⟨rfl, by omega⟩

set_option maxRecDepth 100000 in
set_option maxHeartbeats 3200000 in
theorem rhex_any (g : Nat) (s : ByteArray) (i : Nat) (c : Int) (w : World) (hs : s.size ≤ 140737488351232) (hi : i ≤ s.size) (h : RS w g s i c) :
    Calls Tryd.prog 62 #[.pointer (some ⟨g, 0, none⟩)] w (RHexPost g s i c w) := by
  have HP := Lib.hid h
  have p0 := h.c0
  have p1 := h.c1
  clear h
  have e6 : IntKind.i64.wrap ((s.size : Int) - i) = (s.size : Int) - i := IntWalk.i64_in _ ⟨by omega, by omega⟩
  by_cases h4 : i + 4 ≤ s.size
  case neg =>
    have HN : Hid (hexS s i = none) := by
      show _ = _
      cases hh : hexS s i with
      | none => rfl
      | some r => exact absurd (hexS_in hh) h4
    have t1 : decide ((s.size : Int) - i < 4) = true := decide_eq_true (by omega)
    clear h4
    go_enter Tryd.func62, Tryd.ntmps62
    go_wp2_with fail
    go_quiet (fail)
    go_wp2_with fail
    go_ret
    exact RHexPost.no HN.out ⟨rfl, HP.out.drewN _, (by (repeat' (first | (with_reducible exact But.refl _ _) | (with_reducible assumption) | (with_reducible refine But.drewN ?_ _) | (with_reducible refine But.drew ?_) | (with_reducible refine But.alloc ?_ _) | (with_reducible refine But.setOwn ?_ _ _))))⟩
  case pos =>
    have t1 : decide ((s.size : Int) - i < 4) = false := decide_eq_false (by omega)
    go_enter Tryd.func62, Tryd.ntmps62
    go_wp2_with fail
    go_quiet (fail)
    go_wp2_with fail
    go_loopw [3, 4] (fun v3 v4 wr => ∃ (k x : Nat) (X : Int), v4 = .int .i64 k ∧ v3 = .int .i64 X ∧ k ≤ 4 ∧ 0 ≤ X ∧ X < 65536 ∧ Hid (X = x ∧ x < 16 ^ k ∧ RS wr g s i c ∧ But g w wr ∧ hexS s i = hexF s (4 - k) (i + k) x)) (fun _ v4 _ => 4 - (intOf v4).toNat)
    case atStart => exact ⟨0, 0, 0, rfl, rfl, by omega, by omega, by omega, rfl, by decide, HP.out.drewN _, (by (repeat' (first | (with_reducible exact But.refl _ _) | (with_reducible assumption) | (with_reducible refine But.drewN ?_ _) | (with_reducible refine But.drew ?_) | (with_reducible refine But.alloc ?_ _) | (with_reducible refine But.setOwn ?_ _ _)))), rfl⟩
    case round =>
      obtain ⟨k, x, X, rfl, rfl, hk, hX0, hX1, H⟩ := hrel
      have q0 := H.out.2.2.1.c0
      have q1 := H.out.2.2.1.c1
      have q2 := H.out.2.2.1.f1
      by_cases hlt : k < 4
      · have hX2 : X < 4096 := by
          have h1 := H.out.2.1; have h2 := H.out.1
          have h3 : 16 ^ k ≤ 4096 := by rcases k with _ | _ | _ | _ | k <;> first | omega | decide
          omega
        have HE : Hid (hexS s i = hexF s ((3 - k) + 1) (i + k) x) := by show _ = _; rw [H.out.2.2.2.2, show 4 - k = (3 - k) + 1 from by omega]
        have HXx : Hid (X = x ∧ x < 16 ^ k) := ⟨H.out.1, H.out.2.1⟩
        have HPB : Hid (RS wr g s i c ∧ But g w wr) := ⟨H.out.2.2.1, H.out.2.2.2.1⟩
        have hik : i + k < s.size := by omega
        have HB := Lib.hid (bt_at hik)
        have hc1 := bt_lt s (i + k)
        rw [HB.out] at hc1
        obtain ⟨C, hC⟩ : ∃ C : Int, ((s[i + k]'hik).toNat : Int) = C := ⟨_, rfl⟩
        have HC : Hid (C = bt s (i + k)) := by show _ = _; rw [HB.out, hC]
        have hC0 : 0 ≤ C := by omega
        have hC1 : C < 256 := by omega
        have e1 : IntKind.i64.wrap ((i : Int) + k) = (i : Int) + k := IntWalk.i64_in _ ⟨by omega, by omega⟩
        have e2 : 0 ≤ (i : Int) + k := by omega
        have e3 : ((i : Int) + k).toNat = i + k := by omega
        have e4 : (i : Int) + k < s.size := by omega
        clear hc1 H
        rcases hexV_cases (c := bt s (i + k)) with ⟨v, hv, hcs⟩ | ⟨hv, hcs⟩
        · have HS : Hid (hexS s i = hexF s (4 - (k + 1)) (i + (k + 1)) (16 * x + v)) := by show _ = _; rw [HE.out, hexF_some hv, show 4 - (k + 1) = 3 - k from by omega]; rfl
          have hv16 := hexV_lt hv
          have HB2 : Hid (16 * x + v < 16 ^ (k + 1)) := pow_bd k x v hlt HXx.out.2 hv16
          clear hv
          rcases hcs with ⟨c1, c2, c3⟩ | ⟨c1, c2, c3⟩ | ⟨c1, c2, c3⟩
          · have b1 : 48 ≤ C := by have := HC.out; omega
            have b2 : C ≤ 57 := by have := HC.out; omega
            have HV : Hid (C - 48 = v) := by have := HC.out; show _ = _; omega
            clear c1 c2 c3
            go_wp2_with fail
            go_quiet (fail)
            go_wp2_with fail
            go_roundw
            case rel => exact ⟨k + 1, 16 * x + v, ((16 * x + v : Nat) : Int), by go_num, by have := HV.out; have := HXx.out.1; go_num, by omega, by omega, by have := HB2.out; have := pow_le (k + 1) (by omega); omega, rfl, HB2.out, HPB.out.1.drewN _, (by have := HPB.out.2; (repeat' (first | (with_reducible exact But.refl _ _) | (with_reducible assumption) | (with_reducible refine But.drewN ?_ _) | (with_reducible refine But.drew ?_) | (with_reducible refine But.alloc ?_ _) | (with_reducible refine But.setOwn ?_ _ _)))), HS.out⟩
            case measure => simp [intOf]; omega
          · have b1 : 48 ≤ C := by have := HC.out; omega
            have b2 : ¬ C ≤ 57 := by have := HC.out; omega
            have b3 : 97 ≤ C := by have := HC.out; omega
            have b4 : C ≤ 102 := by have := HC.out; omega
            have HV : Hid (C - 97 + 10 = v) := by have := HC.out; show _ = _; omega
            clear c1 c2 c3
            go_wp2_with fail
            go_quiet (fail)
            go_wp2_with fail
            go_roundw
            case rel => exact ⟨k + 1, 16 * x + v, ((16 * x + v : Nat) : Int), by go_num, by have := HV.out; have := HXx.out.1; go_num, by omega, by omega, by have := HB2.out; have := pow_le (k + 1) (by omega); omega, rfl, HB2.out, HPB.out.1.drewN _, (by have := HPB.out.2; (repeat' (first | (with_reducible exact But.refl _ _) | (with_reducible assumption) | (with_reducible refine But.drewN ?_ _) | (with_reducible refine But.drew ?_) | (with_reducible refine But.alloc ?_ _) | (with_reducible refine But.setOwn ?_ _ _)))), HS.out⟩
            case measure => simp [intOf]; omega
          · have b1 : 48 ≤ C := by have := HC.out; omega
            have b2 : ¬ C ≤ 57 := by have := HC.out; omega
            have b3 : ¬ 97 ≤ C := by have := HC.out; omega
            have b4 : 65 ≤ C := by have := HC.out; omega
            have b5 : C ≤ 70 := by have := HC.out; omega
            have HV : Hid (C - 65 + 10 = v) := by have := HC.out; show _ = _; omega
            clear c1 c2 c3
            go_wp2_with fail
            go_quiet (fail)
            go_wp2_with fail
            go_roundw
            case rel => exact ⟨k + 1, 16 * x + v, ((16 * x + v : Nat) : Int), by go_num, by have := HV.out; have := HXx.out.1; go_num, by omega, by omega, by have := HB2.out; have := pow_le (k + 1) (by omega); omega, rfl, HB2.out, HPB.out.1.drewN _, (by have := HPB.out.2; (repeat' (first | (with_reducible exact But.refl _ _) | (with_reducible assumption) | (with_reducible refine But.drewN ?_ _) | (with_reducible refine But.drew ?_) | (with_reducible refine But.alloc ?_ _) | (with_reducible refine But.setOwn ?_ _ _)))), HS.out⟩
            case measure => simp [intOf]; omega
        · have HN : Hid (hexS s i = none) := HE.out.trans (hexF_none hv)
          clear hv
          rcases hcs with h1 | ⟨h1, h2⟩ | ⟨h1, h2⟩ | h1
          · have b1 : ¬ 48 ≤ C := by have := HC.out; omega
            have b3 : ¬ 97 ≤ C := by have := HC.out; omega
            have b4 : ¬ 65 ≤ C := by have := HC.out; omega
            clear h1
            go_wp2_with fail
            go_quiet (fail)
            go_wp2_with fail
            go_ret
            exact RHexPost.no HN.out ⟨rfl, HPB.out.1.drewN _, (by have := HPB.out.2; (repeat' (first | (with_reducible exact But.refl _ _) | (with_reducible assumption) | (with_reducible refine But.drewN ?_ _) | (with_reducible refine But.drew ?_) | (with_reducible refine But.alloc ?_ _) | (with_reducible refine But.setOwn ?_ _ _))))⟩
          · have b1 : 48 ≤ C := by have := HC.out; omega
            have b2 : ¬ C ≤ 57 := by have := HC.out; omega
            have b3 : ¬ 97 ≤ C := by have := HC.out; omega
            have b4 : ¬ 65 ≤ C := by have := HC.out; omega
            clear h1 h2
            go_wp2_with fail
            go_quiet (fail)
            go_wp2_with fail
            go_ret
            exact RHexPost.no HN.out ⟨rfl, HPB.out.1.drewN _, (by have := HPB.out.2; (repeat' (first | (with_reducible exact But.refl _ _) | (with_reducible assumption) | (with_reducible refine But.drewN ?_ _) | (with_reducible refine But.drew ?_) | (with_reducible refine But.alloc ?_ _) | (with_reducible refine But.setOwn ?_ _ _))))⟩
          · have b1 : 48 ≤ C := by have := HC.out; omega
            have b2 : ¬ C ≤ 57 := by have := HC.out; omega
            have b3 : ¬ 97 ≤ C := by have := HC.out; omega
            have b4 : 65 ≤ C := by have := HC.out; omega
            have b5 : ¬ C ≤ 70 := by have := HC.out; omega
            clear h1 h2
            go_wp2_with fail
            go_quiet (fail)
            go_wp2_with fail
            go_ret
            exact RHexPost.no HN.out ⟨rfl, HPB.out.1.drewN _, (by have := HPB.out.2; (repeat' (first | (with_reducible exact But.refl _ _) | (with_reducible assumption) | (with_reducible refine But.drewN ?_ _) | (with_reducible refine But.drew ?_) | (with_reducible refine But.alloc ?_ _) | (with_reducible refine But.setOwn ?_ _ _))))⟩
          · have b1 : 48 ≤ C := by have := HC.out; omega
            have b2 : ¬ C ≤ 57 := by have := HC.out; omega
            have b3 : 97 ≤ C := by have := HC.out; omega
            have b4 : ¬ C ≤ 102 := by have := HC.out; omega
            have b5 : 65 ≤ C := by have := HC.out; omega
            have b6 : ¬ C ≤ 70 := by have := HC.out; omega
            clear h1
            go_wp2_with fail
            go_quiet (fail)
            go_wp2_with fail
            go_ret
            exact RHexPost.no HN.out ⟨rfl, HPB.out.1.drewN _, (by have := HPB.out.2; (repeat' (first | (with_reducible exact But.refl _ _) | (with_reducible assumption) | (with_reducible refine But.drewN ?_ _) | (with_reducible refine But.drew ?_) | (with_reducible refine But.alloc ?_ _) | (with_reducible refine But.setOwn ?_ _ _))))⟩
      · obtain rfl : k = 4 := by omega
        have HF : Hid (hexS s i = some x) := H.out.2.2.2.2
        go_wp2_with fail
        go_ret
        exact RHexPost.yes HF.out ⟨by rw [← H.out.1]; rfl, H.out.2.2.1.set _ _ (by go_num), H.out.2.2.2.1.setOwn _ _⟩

end Go.Proofs.YtbhnfehpbbibbaaDoor
