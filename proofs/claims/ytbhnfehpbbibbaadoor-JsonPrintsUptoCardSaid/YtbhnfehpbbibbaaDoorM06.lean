/- Package json's parser: text, for every text and place. A map of the keys that were seen: what a look-up in it gives, and what a store makes of it. For every world and every key that a string may be. How a value of JSON lies in memory: its cells, its members' rows. What stays when the world grows. For every world. A variable of type Json in a block of its own: loads and stores of all of it. For every world. -/
import Derived.Test.YtbhnfehpbbibbaaDoorM05
import Derived.Deep.RegionWith
import Derived.Deep.RegionHeld3
import Derived.Maps.OwnSet
import Derived.Maps.OwnOps
import Derived.StringKeys

namespace Go.Proofs.YtbhnfehpbbibbaaDoor
open Go.RowKit

def textS (s : ByteArray) (i : Nat) : Option (ByteArray × Nat) := if bt s i = 34 then txtS s (i + 1) else none

theorem strCells_acc (acc : List UInt8) (e : ByteArray) : (acc.map fun b => Value.int .u8 b.toNat) ++ Lib.strCells e = (acc ++ e.data.toList).map fun b => Value.int .u8 b.toNat := by
  simp [Lib.strCells]
theorem txt_quote {s : ByteArray} {k i : Nat} {acc : List UInt8} (h : bt s i = 34) : txtF s (k + 1) i acc = some (⟨acc.toArray⟩, i + 1) := by unfold txtF; rw [if_pos h]
theorem txt_esc {s : ByteArray} {k i j : Nat} {acc : List UInt8} {e : ByteArray} (h : bt s i = 92) (he : escS s (i + 1) = some (e, j)) : txtF s (k + 1) i acc = txtF s k j (acc ++ e.data.toList) := by
  rw [txtF, if_neg (by omega), if_pos h, he]
theorem txt_esc_no {s : ByteArray} {k i : Nat} {acc : List UInt8} (h : bt s i = 92) (he : escS s (i + 1) = none) : txtF s (k + 1) i acc = none := by
  rw [txtF, if_neg (by omega), if_pos h, he]
theorem txt_rune {s : ByteArray} {k i r n : Nat} {acc : List UInt8} (h1 : bt s i ≠ 34) (h2 : bt s i ≠ 92) (hr : runeS s i = (r, n)) (hn : ¬ (n = 0 ∨ r < 32)) : txtF s (k + 1) i acc = txtF s k (i + n) (acc ++ (s.extract i (i + n)).data.toList) := by
  rw [txtF, if_neg h1, if_neg h2, hr, if_neg hn]
theorem txt_bad {s : ByteArray} {k i r n : Nat} {acc : List UInt8} (h1 : bt s i ≠ 34) (h2 : bt s i ≠ 92) (hr : runeS s i = (r, n)) (hn : n = 0 ∨ r < 32) : txtF s (k + 1) i acc = none := by
  rw [txtF, if_neg h1, if_neg h2, hr, if_pos hn]

theorem BRow.app {w : World} {base m : Nat} {v : Value} {acc : List UInt8} {e : ByteArray} (h : w.ownsRow base 5 1 v m ((acc.map fun b => Value.int .u8 b.toNat) ++ Lib.strCells e)) (hm : m = acc.length + e.size) : BRow w base v (acc ++ e.data.toList) := by
  rw [strCells_acc] at h
  have hl : (acc ++ e.data.toList).length = m := by rw [List.length_append, hm]; rfl
  unfold BRow
  rw [hl]; exact h
theorem extract_size {s : ByteArray} {k n : Nat} (h : k + n ≤ s.size) : (s.extract k (k + n)).size = n := by rw [ByteArray.size_extract]; omega

set_option maxRecDepth 100000 in
set_option maxHeartbeats 8000000 in
theorem text_any (g : Nat) (s : ByteArray) (i : Nat) (w : World) (hs : s.size ≤ 140737488351232) (hi : i ≤ s.size) (h : PS w g s i) :
    Calls Tryd.prog 28 #[.pointer (some ⟨g, 0, none⟩)] w (TextPost g s (textS s i) w) := by
  have hm : s.size ≤ maxLen := by unfold maxLen; omega
  have HP := Lib.hid h
  have hgl := h.lt
  clear h
  obtain ⟨i0, hinfo, hz0, hz1, hz2⟩ := info_parts uinfo
  by_cases hq : bt s i = 34
  case neg =>
    have HE : Hid (textS s i = none) := by show _ = _; unfold textS; rw [if_neg hq]
    go_enter Tryd.func28, Tryd.ntmps28
    go_wp2_with fail
    refine (take_err g s i _ _ hs HP.out (by intro h; omega)).mono ?_
    rintro e w1 ⟨rfl, hb⟩
    exact ⟨rfl, TextPost.no HE.out ⟨rfl, hb⟩⟩
  case pos =>
    have hil := bt_in (s := s) (i := i) (by omega)
    have HT : Hid (textS s i = txtF s (s.size + 1 - (i + 1)) (i + 1) []) := by show _ = _; unfold textS; rw [if_pos hq]; rfl
    have HQ := Lib.hid hq
    clear hq
    go_enter Tryd.func28, Tryd.ntmps28
    go_wp2_with fail
    refine (take_ok g s i _ _ hs HP.out hil (by have := HQ.out; omega)).mono ?_
    rintro e w1 ⟨rfl, hp, hb⟩
    have H1 : Hid (PS w1 g s (i + 1) ∧ But g w w1) := ⟨hp, hb⟩
    clear hp hb
    go_wp2_with fail
    go_loopg [3] (s.size - (i + 1)) (fun n v wr => ∃ (k : Nat) (acc : List UInt8), k ≤ s.size ∧ acc.length ≤ k ∧ n = s.size - k ∧ Hid (PS wr g s k ∧ But g w wr ∧ BRow wr w.heap.size v acc ∧ textS s i = txtF s (s.size + 1 - k) k acc))
    case atStart => exact ⟨i + 1, [], by omega, by simp, rfl, H1.out.1, H1.out.2, BRow.nil _ _, HT.out⟩
    case round =>
      obtain ⟨k, acc, hk, hacc, hn, H⟩ := hrel
      have HN := Lib.hid hn
      clear hn
      have HT2 : Hid (textS s i = txtF s ((s.size - k) + 1) k acc) := by show _ = _; rw [H.out.2.2.2, show s.size + 1 - k = (s.size - k) + 1 from by omega]
      have HR : Hid (BRow wr w.heap.size u3 acc) := H.out.2.2.1
      have H0 : Hid (PS wr g s k ∧ But g w wr) := ⟨H.out.1, H.out.2.1⟩
      clear H
      go_wp2_with fail
      refine (next_at g s k _ hs H0.out.1).mono ?_
      rintro e w2 ⟨D, rfl, HD, ⟨hD0, hD1⟩, hp2, hb2⟩
      have H2 : Hid (PS w2 g s k ∧ But g w w2) := ⟨hp2, H0.out.2.trans hb2⟩
      have HR2 : Hid (BRow w2 w.heap.size u3 acc) := HR.out.but hb2 hgl
      clear hp2 hb2 H0 HR
      by_cases d1 : D = 34
      · subst d1
        have HE : Hid (textS s i = some (⟨acc.toArray⟩, k + 1)) := by show _ = _; rw [HT2.out, txt_quote (by have := HD.out; omega)]
        have q0 := H2.out.1.c0
        have q1 := H2.out.1.c1
        have q2 := H2.out.1.f1
        have H6 : Hid (PS (w2.setCell ⟨g, 1, none⟩ (.int .i64 ((k : Int) + 1))) g s (k + 1) ∧ But g w (w2.setCell ⟨g, 1, none⟩ (.int .i64 ((k : Int) + 1)))) := ⟨H2.out.1.set _ _ (by go_num), H2.out.2.setOwn _ _⟩
        have hconv := (HR2.out.but (But.setOwn (But.refl g _) 1 (.int .i64 ((k : Int) + 1))) hgl).text
        go_wp2_with fail
        go_ret
        exact TextPost.yes HE.out ⟨rfl, H6.out.1, H6.out.2⟩
      · have d1b : (D != 34) = true := bne_iff_ne.2 d1
        go_wp2_with fail
        refine (next_at g s k _ hs H2.out.1).mono ?_
        rintro e w3 ⟨D3, rfl, HD3, _, hp3, hb3⟩
        obtain rfl : D = D3 := by rw [HD.out, HD3.out]
        have H3 : Hid (PS w3 g s k ∧ But g w w3) := ⟨hp3, H2.out.2.trans hb3⟩
        have HR3 : Hid (BRow w3 w.heap.size u3 acc) := HR2.out.but hb3 hgl
        clear hp3 hb3 H2 HR2
        have q0 := H3.out.1.c0
        have q1 := H3.out.1.c1
        have q2 := H3.out.1.f1
        by_cases d2 : D = 92
        · subst d2
          have HK : Hid (bt s k = 92) := by have := HD.out; show _ = _; omega
          have hkl := bt_in (s := s) (i := k) (by have := HK.out; omega)
          have H4 : Hid (PS (w3.setCell ⟨g, 1, none⟩ (.int .i64 ((k : Int) + 1))) g s (k + 1) ∧ But g w (w3.setCell ⟨g, 1, none⟩ (.int .i64 ((k : Int) + 1))) ∧ BRow (w3.setCell ⟨g, 1, none⟩ (.int .i64 ((k : Int) + 1))) w.heap.size u3 acc) :=
            ⟨H3.out.1.set _ _ (by go_num), H3.out.2.setOwn _ _, HR3.out.but (But.setOwn (But.refl g _) _ _) hgl⟩
          go_wp2_with fail
          refine (escaped_any g s (k + 1) _ hs (by omega) H4.out.1).mono ?_
          intro e w5 hx
          have HX := Lib.hid hx
          clear hx
          cases he : escS s (k + 1) with
          | none =>
            have ht := HX.out.at_none he
            have HE : Hid (textS s i = none) := by show _ = _; rw [HT2.out, txt_esc_no HK.out he]
            obtain ⟨rfl, hb⟩ := ht
            exact ⟨rfl, TextPost.no HE.out ⟨rfl, H4.out.2.1.trans hb⟩⟩
          | some p =>
            obtain ⟨t, j⟩ := p
            have ht := HX.out.at_some he
            obtain ⟨hj1, hj2, hj3⟩ := escS_in he
            have HE : Hid (textS s i = txtF s (s.size + 1 - j) j (acc ++ t.data.toList)) := by
              show _ = _
              rw [HT2.out, txt_esc HK.out he]
              exact txtF_key s _ _ _ _ (by omega) (by omega)
            obtain ⟨rfl, hp5, hb5⟩ := ht
            have H5 : Hid (PS w5 g s j ∧ But g w w5 ∧ BRow w5 w.heap.size u3 acc) := ⟨hp5, H4.out.2.1.trans hb5, H4.out.2.2.but hb5 hgl⟩
            clear hp5 hb5 he HX
            go_wp2_with (at_builtin; refine Lib.wpList_append_own_string _ rfl _ _ 53 9 rfl w.heap.size 5 i0 Tryd.underlying53 Tryd.underlying9 hinfo hz0 hz1 hz2 _ acc.length _ rfl H5.out.2.2 t rfl ?c1 ?c2 ?c3 ?_)
            case c1 => unfold maxLen; omega
            case c2 => omega
            case c3 => exact H5.out.2.1.size
            intro v6 w6 hown hgr _
            have H6 : Hid (PS w6 g s j ∧ But g w w6 ∧ BRow w6 w.heap.size v6 (acc ++ t.data.toList)) := ⟨PS.grown H5.out.1 hgr (own_ne H5.out.2.2 hgl), But.grown H5.out.2.1 hgr (fun j hj => (H5.out.2.2.lt j hj).1), BRow.app hown rfl⟩
            clear hown hgr
            have HL : Hid ((acc ++ t.data.toList).length ≤ j) := by
              show _ ≤ _
              have : t.data.toList.length = t.size := rfl
              rw [List.length_append]; omega
            go_wp2_with fail
            go_roundg (s.size - j)
            case measure => have := HN.out; omega
            case rel => exact ⟨j, _, hj2, HL.out, rfl, H6.out.1, H6.out.2.1, H6.out.2.2, HE.out⟩
        · have d2b : (D == 92) = false := beq_eq_false_iff_ne.2 d2
          go_wp2_with fail
          go_region_with (go_at_call 49; refine (rune_any' s k _ hm).mono ?_; rintro e w4 ⟨r, n, rfl, Hr, hb4⟩)
          all_goals
            have hp4 : PS w4 g s k := PS.below (w := w3.drew) H3.out.1 hb4
            have H4 : Hid (PS w4 g s k ∧ But g w w4) := ⟨hp4, H3.out.2.drew.trans (.below hb4)⟩
            have HR4 : Hid (BRow w4 w.heap.size u3 acc) := BRow.below (w := w3.drew) HR3.out hb4
            have HD34 : Hid (bt s k ≠ 34 ∧ bt s k ≠ 92) := by have := HD.out; exact ⟨by omega, by omega⟩
            clear hp4 hb4 q0 q1 q2
            have q0 := H4.out.1.c0
            have q1 := H4.out.1.c1
            have q2 := H4.out.1.f1
            by_cases hn0 : n = 0
            · subst hn0
              have HE : Hid (textS s i = none) := by show _ = _; rw [HT2.out, txt_bad HD34.out.1 HD34.out.2 Hr.out (.inl rfl)]
              go_wp2_with fail
              refine (bad_any _).mono ?_
              rintro e w6 ⟨rfl, rfl⟩
              exact ⟨rfl, TextPost.no HE.out ⟨rfl, H4.out.2⟩⟩
            · obtain ⟨hn1, hn4, hnk⟩ := rune_bd Hr.out hn0
              have hn0b : ((n : Int) == 0) = false := beq_eq_false_iff_ne.2 (by omega)
              by_cases hr32 : (r : Int) < 32
              · have HE : Hid (textS s i = none) := by show _ = _; rw [HT2.out, txt_bad HD34.out.1 HD34.out.2 Hr.out (.inr (by omega))]
                go_wp2_with fail
                refine (bad_any _).mono ?_
                rintro e w6 ⟨rfl, rfl⟩
                exact ⟨rfl, TextPost.no HE.out ⟨rfl, H4.out.2⟩⟩
              · have HE : Hid (textS s i = txtF s (s.size + 1 - (k + n)) (k + n) (acc ++ (s.extract k (k + n)).data.toList)) := by
                  show _ = _
                  rw [HT2.out, txt_rune HD34.out.1 HD34.out.2 Hr.out (by omega)]
                  exact txtF_key s _ _ _ _ (by omega) (by omega)
                have e1 : IntKind.i64.wrap ((k : Int) + n) = (k : Int) + n := IntWalk.i64_in _ ⟨by omega, by omega⟩
                have e2 : 0 ≤ (k : Int) + n := by omega
                have e3 : ((k : Int) + n).toNat = k + n := by omega
                have e4 : (k : Int) ≤ (k : Int) + n := by omega
                have e5 : (k : Int) + n ≤ s.size := by omega
                have e6 : k + n ≤ s.size := hnk
                go_wp2_with fail
                go_still_tail 16, (by kernel_rfl)
                clear e1 e2 e3 e4 e5
                go_wp2_with (at_builtin; refine Lib.wpList_append_own_string _ rfl _ _ 53 9 rfl w.heap.size 5 i0 Tryd.underlying53 Tryd.underlying9 hinfo hz0 hz1 hz2 _ acc.length _ rfl HR4.out (s.extract k (k + n)) rfl ?c1 ?c2 ?c3 ?_)
                case c1 => rw [extract_size hnk]; unfold maxLen; omega
                case c2 => rw [extract_size hnk]; omega
                case c3 => exact H4.out.2.size
                intro v5 w5 hown hgr _
                have H5 : Hid (PS w5 g s k ∧ But g w w5 ∧ BRow w5 w.heap.size v5 (acc ++ (s.extract k (k + n)).data.toList)) := ⟨PS.grown (w := w4.drew) H4.out.1 hgr (own_ne HR4.out hgl), But.grown (H4.out.2.drew) hgr (fun j hj => (HR4.out.lt j hj).1), BRow.app hown (by rw [extract_size hnk])⟩
                clear hown hgr q0 q1 q2
                have q0 := H5.out.1.c0
                have q1 := H5.out.1.c1
                have q2 := H5.out.1.f1
                have HL : Hid ((acc ++ (s.extract k (k + n)).data.toList).length ≤ k + n) := by
                  show _ ≤ _
                  have : (s.extract k (k + n)).data.toList.length = n := extract_size hnk
                  rw [List.length_append]; omega
                have H6 : Hid (PS (w5.setCell ⟨g, 1, none⟩ (.int .i64 ((k : Int) + n))) g s (k + n) ∧ But g w (w5.setCell ⟨g, 1, none⟩ (.int .i64 ((k : Int) + n))) ∧ BRow (w5.setCell ⟨g, 1, none⟩ (.int .i64 ((k : Int) + n))) w.heap.size v5 (acc ++ (s.extract k (k + n)).data.toList)) :=
                  ⟨H5.out.1.set _ _ (by go_num), H5.out.2.1.setOwn _ _, H5.out.2.2.but (But.setOwn (But.refl g _) _ _) hgl⟩
                go_wp2_with fail
                go_roundg (s.size - (k + n))
                case measure => have := HN.out; omega
                case rel => exact ⟨k + n, _, hnk, HL.out, rfl, H6.out.1, H6.out.2.1, H6.out.2.2, HE.out⟩

end Go.Proofs.YtbhnfehpbbibbaaDoor

namespace Go.Proofs.YtbhnfehpbbibbaaDoor
open Go.RowKit

def klit (k : ByteArray) : Lit := .string k.data.toList
theorem klit_inj {a b : ByteArray} (h : klit a = klit b) : a = b := by
  unfold klit at h
  injection h with h
  cases a; cases b
  simp only [Array.toList_inj] at h
  rw [h]
def seenD (keys : List ByteArray) : DataW Unit := Maps.setOf (.lit (.bool true)) (keys.map klit)
def Seen (w : World) (M : Nat) (keys : List ByteArray) : Prop := w.ownsMap (H := Unit) Tryd.prog 9 (plainElem Tryd.prog 4) M keys.length (seenD keys)

theorem keyed : Maps.Keyed Tryd.prog 9 := Maps.string_keyed Tryd.underlying9
theorem zeroBool (w : World) : (zeroValue 4).run Tryd.prog w = .ok (.bool false) w := by kernel_rfl
theorem isKey (k : ByteArray) : WideAt.IsKeyLit (klit k) := by unfold klit; simp [WideAt.IsKeyLit]
theorem seen_snoc (keys : List ByteArray) (x : ByteArray) : seenD (keys ++ [x]) = (seenD keys).put (klit x) (.lit (.bool true)) := by
  unfold seenD; rw [List.map_append, List.map_singleton, Maps.setOf_snoc]
theorem seen_isMap (keys : List ByteArray) : Maps.IsMap (seenD keys) := by
  unfold seenD
  exact (Maps.tidy_setOf _ _ (by intro y hy; simp only [List.mem_map] at hy; obtain ⟨z, _, rfl⟩ := hy; exact isKey z)).isMap
theorem seen_at (keys : List ByteArray) (k : ByteArray) : (seenD keys).atKey (klit k) (.lit (.bool false)) = .lit (.bool (memB k keys)) := by
  have key : ∀ (l : List ByteArray), (seenD l.reverse).atKey (klit k) (.lit (.bool false)) = .lit (.bool (memB k l.reverse)) := by
    intro l
    induction l with
    | nil => simp [seenD, Maps.setOf, DataW.atKey, memB]
    | cons x l ih =>
      rw [List.reverse_cons, seen_snoc, memB_app]
      by_cases e : x = k
      · subst e
        rw [Maps.atKey_put_same (seen_isMap _) (isKey x)]
        simp [memB]
      · rw [Maps.atKey_put_other (fun h => e (klit_inj h).symm), ih]
        simp [memB, e]
  have := key keys.reverse
  rwa [List.reverse_reverse] at this
theorem plain_bool_inv {P : Program} {e : TypeId} (he : P.underlying e = some .bool) {v : Value} {z : DataW Unit × List MemPlace} (h : plainElem P e v = some z) : ∃ a, v = .bool a ∧ z = (.lit (.bool a), []) := by
  unfold plainElem at h
  rw [he] at h
  cases v <;> simp at h
  exact ⟨_, rfl, h.symm⟩
theorem key_of {k : ByteArray} (h : k.size ≤ maxLen) : keyOf Tryd.prog 9 (.string k) = some (klit k) := Go.WideMaps.keyOf_string_mk Tryd.underlying9 h

theorem Seen.new (w : World) : Seen (w.alloc (.map #[] 0)) w.heap.size [] := World.ownsMap_made w _ _ _
theorem Seen.lt {w M keys} (h : Seen w M keys) : M < w.heap.size := World.ownsMap.lt h
theorem Seen.kept {w w' M keys} {row : Option Nat} (h : Seen w M keys) (hg : w.grownBy w' row) (hne : some M ≠ row) : Seen w' M keys := World.ownsMap.kept h hg hne
theorem Seen.look {w M keys} (h : Seen w M keys) (k : ByteArray) (hk : k.size ≤ maxLen) :
    (Instr.lookup 78 (.map (some M)) (.string k) false).run Tryd.prog w = .ok (.bool (memB k keys)) w := by
  obtain ⟨v, ps, hrun, hv⟩ := World.ownsMap.lookup h keyed Tryd.underlying78 (zeroBool w) (plainElem_bool Tryd.underlying4 false) (key_of hk)
  obtain ⟨a, rfl, ha⟩ := plain_bool_inv Tryd.underlying4 hv
  rw [seen_at] at ha
  simp only [Prod.mk.injEq, DataW.lit.injEq, Lit.bool.injEq] at ha
  rw [hrun, ← ha.1]
theorem Seen.put {w M keys} (h : Seen w M keys) (k : ByteArray) (hk : k.size ≤ maxLen) (hn : keys.length < maxLen) :
    ∃ w', (Instr.mapUpdate 78 (.map (some M)) (.string k) (.bool true)).run Tryd.prog w = .ok () w' ∧ Seen w' M (keys ++ [k]) ∧ w.grownBy w' (some M) := by
  obtain ⟨w', hrun, h1, h2⟩ := World.ownsMap.update h keyed Tryd.underlying78 hn (key_of hk) (plainElem_bool Tryd.underlying4 true)
  refine ⟨w', hrun, ?_, h2⟩
  unfold Seen seenD
  rw [List.map_append, List.map_singleton, Maps.setOf_snoc, List.length_append]
  exact h1

end Go.Proofs.YtbhnfehpbbibbaaDoor

namespace Go.Proofs.YtbhnfehpbbibbaaDoor
open Go.RowKit

/-- the cells from a place on hold cs -/
def Cells (w : World) (b off : Nat) (cs : List Value) : Prop := ∀ j u, cs[j]? = some u → w.cell? ⟨b, off + j, none⟩ = some u
/-- a slice of elements of sz cells each: element i's cells are css[i]; its block is one that ok says -/
def RowAt (w : World) (ok : Nat → Prop) (sz : Nat) (v : Value) (css : List (List Value)) : Prop :=
  (css = [] ∧ ∃ a c, v = .slice a 0 c) ∨
  ∃ b off cap, css ≠ [] ∧ v = .slice (some ⟨b, off, none⟩) css.length cap ∧ css.length ≤ cap ∧ ok b ∧ ∀ i cs, css[i]? = some cs → cs.length = sz ∧ Cells w b (off + i * sz) cs
inductive JRep (w : World) (ok : Nat → Prop) : List Value → J → Prop where
  | mk {k : Int} {b : Bool} {n : Int} {s : ByteArray} {l : List J} {keys : List ByteArray} {Lv Kv : Value} (css : List (List Value))
      (hl : css.length = l.length) (hL : RowAt w ok 6 Lv css) (hrec : ∀ (i : Nat) (cs : List Value) (x : J), css[i]? = some cs → l[i]? = some x → JRep w ok cs x)
      (hK : RowAt w ok 1 Kv (keys.map fun t => [Value.string t])) :
      JRep w ok [.int .i64 k, .bool b, .int .i64 n, .string s, Lv, Kv] (.mk k b n s l keys)

theorem cell_lt {w : World} {b o : Nat} {v : Value} (h : w.cell? ⟨b, o, none⟩ = some v) : b < w.heap.size := World.block_lt_of_cell? w _ h
/-- what is read stays where the blocks that ok says stay -/
theorem RowAt.mono {w w' : World} {ok ok' : Nat → Prop} {sz : Nat} {v : Value} {css : List (List Value)} (h : RowAt w ok sz v css) (hsz : 0 < sz)
    (hk : ∀ b, ok b → b < w.heap.size → ok' b ∧ w'.heap[b]? = w.heap[b]?) : RowAt w' ok' sz v css := by
  rcases h with h | ⟨b, off, cap, hne, hv, hcap, hb, hc⟩
  · exact .inl h
  · obtain ⟨c0, cs', rfl⟩ := List.exists_cons_of_ne_nil hne
    obtain ⟨hl0, hc0⟩ := hc 0 c0 rfl
    have hlt : b < w.heap.size := by
      obtain ⟨u, us, rfl⟩ := List.exists_cons_of_ne_nil (l := c0) (by intro e; subst e; simp at hl0; omega)
      exact cell_lt (hc0 0 u rfl)
    obtain ⟨h1, h2⟩ := hk b hb hlt
    refine .inr ⟨b, off, cap, hne, hv, hcap, h1, fun i cs hi => ⟨(hc i cs hi).1, fun j u hj => ?_⟩⟩
    rw [World.cell?_of_block (w := w) (w' := w') (a := ⟨b, off + i * sz + j, none⟩) h2]
    exact (hc i cs hi).2 j u hj
theorem JRep.mono {w w' : World} {ok ok' : Nat → Prop} {cs : List Value} {x : J} (h : JRep w ok cs x)
    (hk : ∀ b, ok b → b < w.heap.size → ok' b ∧ w'.heap[b]? = w.heap[b]?) : JRep w' ok' cs x := by
  induction h with
  | mk css hl hL hrec hK ih => exact .mk css hl (hL.mono (by omega) hk) (fun i cs x h1 h2 => ih i cs x h1 h2) (hK.mono (by omega) hk)
theorem JRep.stays {w w' : World} {ok : Nat → Prop} {cs : List Value} {x : J} (h : JRep w ok cs x) (hb : Below w.heap.size w w') : JRep w' ok cs x :=
  h.mono fun b hb1 hlt => ⟨hb1, hb.block b hlt⟩
theorem JRep.len {w : World} {ok : Nat → Prop} {cs : List Value} {x : J} (h : JRep w ok cs x) : cs.length = 6 := by cases h; rfl

/-- a row that the call owns is one that can be read -/
theorem flatten_get {sz : Nat} : ∀ {css : List (List Value)} {i j : Nat} {cs : List Value} {u : Value}, (∀ c ∈ css, c.length = sz) → css[i]? = some cs → cs[j]? = some u → css.flatten[i * sz + j]? = some u
  | [], i, j, cs, u, _, h, _ => by simp at h
  | c :: css, 0, j, cs, u, hl, h, hj => by
    simp at h; subst h
    have : j < c.length := (List.getElem?_eq_some_iff.1 hj).1
    simp only [List.flatten_cons, Nat.zero_mul, Nat.zero_add]
    rw [List.getElem?_append_left this]; exact hj
  | c :: css, i + 1, j, cs, u, hl, h, hj => by
    have hc : c.length = sz := hl c (by simp)
    simp only [List.flatten_cons]
    rw [List.getElem?_append_right (by rw [hc, Nat.succ_mul]; omega), hc, show (i + 1) * sz + j - sz = i * sz + j from by rw [Nat.succ_mul]; omega]
    exact flatten_get (fun c h => hl c (by simp [h])) (by simpa using h) hj
theorem own_row {w : World} {base e sz n : Nat} {v : Value} {css : List (List Value)} (h : w.ownsRow base e sz v n css.flatten) (hn : n = css.length) (hl : ∀ c ∈ css, c.length = sz) : RowAt w (fun b => base ≤ b) sz v css := by
  obtain ⟨h1, h2⟩ := h
  subst hn
  rcases h2 with ⟨rfl, h2⟩ | ⟨g, cap, cur, rfl, hg, hh, hn, hc, hs, ht⟩
  · exact .inl ⟨List.eq_nil_of_length_eq_zero h2, none, 0, rfl⟩
  · by_cases he : css = []
    · subst he; exact .inl ⟨rfl, _, _, rfl⟩
    · refine .inr ⟨g, 0, cap, he, rfl, hn, hg, fun i cs hi => ⟨hl cs (List.mem_of_getElem? hi), fun j u hj => ?_⟩⟩
      have h3 := flatten_get hl hi hj
      simp only [World.cell?, hh, Option.isSome_none, Bool.false_eq_true, if_false, Nat.zero_add]
      rw [← ht, List.getElem?_take] at h3
      rw [← Array.getElem?_toList]
      split at h3
      · exact h3
      · cases h3

/-- the rows of a value that the call owns -/
def JOwn (w : World) (base : Nat) (cs : List Value) : Prop :=
  ∃ Lv Kv nL xL nK xK, cs[4]? = some Lv ∧ cs[5]? = some Kv ∧ w.ownsRow base 25 6 Lv nL xL ∧ w.ownsRow base 9 1 Kv nK xK
theorem JOwn.below {w w' : World} {base : Nat} {cs : List Value} (h : JOwn w base cs) (hb : Below w.heap.size w w') : JOwn w' base cs := by
  obtain ⟨Lv, Kv, nL, xL, nK, xK, h1, h2, h3, h4⟩ := h
  have hg : ∀ row, w.grownBy w' row := fun row => ⟨hb.os, hb.tape, hb.output, hb.size, fun k hk _ => hb.block k hk⟩
  exact ⟨Lv, Kv, nL, xL, nK, xK, h1, h2, World.ownsRow.kept h3 (hg none) (by cases Lv.ownBlock <;> simp), World.ownsRow.kept h4 (hg none) (by cases Kv.ownBlock <;> simp)⟩
theorem JOwn.nils (w : World) (base : Nat) (a b c d : Value) : JOwn w base [a, b, c, d, .slice none 0 0, .slice none 0 0] :=
  ⟨_, _, 0, [], 0, [], rfl, rfl, World.ownsRow_nil w base _ _, World.ownsRow_nil w base _ _⟩
theorem JRep.nils (w : World) (ok : Nat → Prop) (k : Int) (b : Bool) (n : Int) (s : ByteArray) : JRep w ok [.int .i64 k, .bool b, .int .i64 n, .string s, .slice none 0 0, .slice none 0 0] (.mk k b n s [] []) :=
  .mk [] rfl (.inl ⟨rfl, none, 0, rfl⟩) (fun i cs x h => by simp at h) (.inl ⟨rfl, none, 0, rfl⟩)

/-- what value and inner come to -/
def JPost (g : Nat) (s : ByteArray) (r : Except Int (J × Nat)) (w : World) (e : Ending) (w' : World) : Prop :=
  match r with
  | .error c => Threw g c w e w'
  | .ok (x, j) => ∃ a b c d Lv Kv, Took g s w (.agg #[a, b, c, d, Lv, Kv]) j e w' ∧ JRep w' (fun k => w.heap.size ≤ k) [a, b, c, d, Lv, Kv] x ∧ JOwn w' w.heap.size [a, b, c, d, Lv, Kv]
theorem JPost.no {g s r w e w' c} (h : r = .error c) (t : Threw g c w e w') : JPost g s r w e w' := by rw [h]; exact t
theorem JPost.yes {g s r w e w' x j a b c d Lv Kv} (h : r = .ok (x, j)) (q : Took g s w (.agg #[a, b, c, d, Lv, Kv]) j e w') (h1 : JRep w' (fun k => w.heap.size ≤ k) [a, b, c, d, Lv, Kv] x) (h2 : JOwn w' w.heap.size [a, b, c, d, Lv, Kv]) : JPost g s r w e w' := by
  rw [h]; exact ⟨a, b, c, d, Lv, Kv, q, h1, h2⟩
theorem JPost.at_error {g s r w e w' c} (q : JPost g s r w e w') (h : r = .error c) : Threw g c w e w' := by rw [h] at q; exact q
theorem JPost.at_ok {g s r w e w' x j} (q : JPost g s r w e w') (h : r = .ok (x, j)) : ∃ a b c d Lv Kv, Took g s w (.agg #[a, b, c, d, Lv, Kv]) j e w' ∧ JRep w' (fun k => w.heap.size ≤ k) [a, b, c, d, Lv, Kv] x ∧ JOwn w' w.heap.size [a, b, c, d, Lv, Kv] := by rw [h] at q; exact q

def innerS (s : ByteArray) (lv i : Nat) (obj : Bool) : Except Int (J × Nat) :=
  match lv with
  | 0 => .error 301
  | lv + 1 => seqS s (valS s lv) obj (s.size + 1) true (whS s (i + 1)) [] []
theorem valS_eq (s : ByteArray) (lv i : Nat) : valS s lv i =
    if bt s i = 110 then (if wordB s i ⟨#[110, 117, 108, 108]⟩ then .ok (.null, i + 4) else .error 300)
    else if bt s i = 116 then (if wordB s i ⟨#[116, 114, 117, 101]⟩ then .ok (.mk 1 true 0 ⟨#[]⟩ [] [], i + 4) else .error 300)
    else if bt s i = 102 then (if wordB s i ⟨#[102, 97, 108, 115, 101]⟩ then .ok (.mk 1 false 0 ⟨#[]⟩ [] [], i + 5) else .error 300)
    else if bt s i = 34 then (match txtS s (i + 1) with | none => .error 300 | some (t, j) => .ok (.mk 3 false 0 t [] [], j))
    else if bt s i = 91 ∨ bt s i = 123 then innerS s lv i (decide (bt s i = 123))
    else match numS s i with | none => .error 300 | some (n, j) => .ok (.mk 2 false n ⟨#[]⟩ [] [], j) := by
  cases lv <;> rfl

end Go.Proofs.YtbhnfehpbbibbaaDoor

namespace Go.Proofs.YtbhnfehpbbibbaaDoor
open Go.RowKit

/-- w' is w but for what block R holds -/
structure Only (R : Nat) (w w' : World) : Prop where
  os : w'.os = w.os
  tape : w'.tape = w.tape
  output : w'.output = w.output
  size : w'.heap.size = w.heap.size
  block : ∀ k, k ≠ R → w'.heap[k]? = w.heap[k]?
theorem Only.refl (R : Nat) (w : World) : Only R w w := ⟨rfl, rfl, rfl, rfl, fun _ _ => rfl⟩
theorem Only.set {R : Nat} {w w' : World} (h : Only R w w') (o : Nat) (v : Value) : Only R w (w'.setCell ⟨R, o, none⟩ v) :=
  ⟨h.os, h.tape, h.output, by simpa [World.setCell] using h.size, fun k hk => (Below.heap_setCell _ _ _ _ hk).trans (h.block k hk)⟩
theorem But.only {g R : Nat} {a w w' : World} (h : But g a w) (ho : Only R w w') (hR : a.heap.size ≤ R) : But g a w' :=
  ⟨ho.os.trans h.os, ho.tape.trans h.tape, ho.output.trans h.output, by rw [ho.size]; exact h.size, fun k hk hg => (ho.block k (by omega)).trans (h.block k hk hg)⟩
theorem Only.but {R : Nat} {w w' : World} (h : Only R w w') : But R w w' := ⟨h.os, h.tape, h.output, by rw [h.size]; exact Nat.le_refl _, fun k _ hk => h.block k hk⟩
theorem PS.only {w w' : World} {g s i R} (h : PS w g s i) (ho : Only R w w') (hne : g ≠ R) : PS w' g s i := (ho.block g hne).trans h

theorem blk_set {w : World} {R : Nat} {cs : Array Value} {T : TypeId} {fr : Nat × Nat} (h : w.heap[R]? = some (.cells cs T fr)) (o : Nat) (v : Value) :
    (w.setCell ⟨R, o, none⟩ v).heap[R]? = some (.cells (cs.setIfInBounds o v) T fr) := by
  simp only [World.setCell, Array.getElem?_modify, h, if_true, Option.map_some]
  rfl
theorem rep_form {w : World} {ok : Nat → Prop} {a b c d e f : Value} {x : J} (h : JRep w ok [a, b, c, d, e, f] x) :
    ∃ (k : Int) (q : Bool) (n : Int) (t : ByteArray) (A : Option Addr) (l cl : Nat) (A' : Option Addr) (l' cl' : Nat), a = .int .i64 k ∧ b = .bool q ∧ c = .int .i64 n ∧ d = .string t ∧ e = .slice A l cl ∧ f = .slice A' l' cl' := by
  cases h with
  | mk css hl hL hrec hK =>
    rcases hL with ⟨_, A, cl, rfl⟩ | ⟨b1, o1, c1, _, rfl, _⟩ <;> rcases hK with ⟨_, A', cl', rfl⟩ | ⟨b2, o2, c2, _, rfl, _⟩ <;> exact ⟨_, _, _, _, _, _, _, _, _, _, rfl, rfl, rfl, rfl, rfl, rfl⟩
/-- block R is a variable of type Json that holds these -/
def JB (w : World) (R : Nat) (a b c d e f : Value) : Prop := w.heap[R]? = some (.cells #[a, b, c, d, e, f] 25 (0, 0))
theorem JB.new (w : World) (a b c d e f : Value) : JB (w.alloc (.cells #[a, b, c, d, e, f] 25)) w.heap.size a b c d e f := by show (w.heap.push _)[w.heap.size]? = _; simp
theorem JB.but {w w' : World} {R g : Nat} {a b c d e f : Value} (h : JB w R a b c d e f) (hb : But g w w') (hne : R ≠ g) : JB w' R a b c d e f := (hb.block R (Array.getElem?_eq_some_iff.1 h).1 hne).trans h
theorem JB.lt {w : World} {R : Nat} {a b c d e f : Value} (h : JB w R a b c d e f) : R < w.heap.size := (Array.getElem?_eq_some_iff.1 h).1
theorem JB.cell {w : World} {R : Nat} {a b c d e f : Value} (h : JB w R a b c d e f) : w.cell? ⟨R, 0, none⟩ = some a ∧ w.cell? ⟨R, 1, none⟩ = some b ∧ w.cell? ⟨R, 2, none⟩ = some c ∧ w.cell? ⟨R, 3, none⟩ = some d ∧ w.cell? ⟨R, 4, none⟩ = some e ∧ w.cell? ⟨R, 5, none⟩ = some f := by
  unfold JB at h; simp [World.cell?, h]
theorem JB.frozen {w : World} {R : Nat} {a b c d e f : Value} (h : JB w R a b c d e f) (o : Nat) : w.frozen? ⟨R, o, none⟩ = false := by
  unfold JB at h; simp [World.frozen?, h]
theorem JB.set6 {w : World} {R : Nat} {a b c d e f : Value} (h : JB w R a b c d e f) (a' b' c' d' e' f' : Value) :
    JB ((((((w.setCell ⟨R, 0, none⟩ a').setCell ⟨R, 1, none⟩ b').setCell ⟨R, 2, none⟩ c').setCell ⟨R, 3, none⟩ d').setCell ⟨R, 4, none⟩ e').setCell ⟨R, 5, none⟩ f') R a' b' c' d' e' f' := by
  have h6 := blk_set (blk_set (blk_set (blk_set (blk_set (blk_set h 0 a') 1 b') 2 c') 3 d') 4 e') 5 f'
  exact h6
theorem JB.set0 {w : World} {R : Nat} {a b c d e f : Value} (h : JB w R a b c d e f) (v : Value) : JB (w.setCell ⟨R, 0, none⟩ v) R v b c d e f := blk_set h 0 v
theorem JB.set4 {w : World} {R : Nat} {a b c d e f : Value} (h : JB w R a b c d e f) (v : Value) : JB (w.setCell ⟨R, 4, none⟩ v) R a b c d v f := blk_set h 4 v
theorem JB.set5 {w : World} {R : Nat} {a b c d e f : Value} (h : JB w R a b c d e f) (v : Value) : JB (w.setCell ⟨R, 5, none⟩ v) R a b c d e v := blk_set h 5 v
theorem only6 (w : World) (R : Nat) (a' b' c' d' e' f' : Value) :
    Only R w ((((((w.setCell ⟨R, 0, none⟩ a').setCell ⟨R, 1, none⟩ b').setCell ⟨R, 2, none⟩ c').setCell ⟨R, 3, none⟩ d').setCell ⟨R, 4, none⟩ e').setCell ⟨R, 5, none⟩ f') :=
  (((((((Only.refl R w).set 0 a').set 1 b').set 2 c').set 3 d').set 4 e').set 5 f')

/-- at the return of a Json that was stored into the result's block just now -/
theorem ret_json {fn : Func} {p : Tmp} (hr : fn.results = #[.cell p 25]) {R : Nat} {a b c d e f a' b' c' d' e' f' : Value} {w : World} {tmps : Array Value} {post : Ending → World → Prop}
    (ht : tmps.getD p undef = .pointer (some ⟨R, 0, none⟩)) (hj : JB w R a b c d e f)
    (h : ∀ W, Only R w W → JB W R a' b' c' d' e' f' → post (.returned (.agg #[a', b', c', d', e', f'])) W) :
    bodyPost Tryd.prog fn post Exit.ret { tmps := tmps, defers := [] } ((((((w.setCell ⟨R, 0, none⟩ a').setCell ⟨R, 1, none⟩ b').setCell ⟨R, 2, none⟩ c').setCell ⟨R, 3, none⟩ d').setCell ⟨R, 4, none⟩ e').setCell ⟨R, 5, none⟩ f') := by
  have h1 := hj.set6 a' b' c' d' e' f'
  have h2 := only6 w R a' b' c' d' e' f'
  generalize ((((((w.setCell ⟨R, 0, none⟩ a').setCell ⟨R, 1, none⟩ b').setCell ⟨R, 2, none⟩ c').setCell ⟨R, 3, none⟩ d').setCell ⟨R, 4, none⟩ e').setCell ⟨R, 5, none⟩ f') = W at h1 h2
  obtain ⟨k0, k1, k2, k3, k4, k5⟩ := h1.cell
  refine bodyPost_ret (v := .agg #[a', b', c', d', e', f']) ?_ rfl (h W h2 h1)
  have ht2 : tmps[p]?.getD undef = .pointer (some ⟨R, 0, none⟩) := by simpa using ht
  simp only [results, hr]
  simp [ht2, go_sem, k0, k1, k2, k3, k4, k5]

end Go.Proofs.YtbhnfehpbbibbaaDoor
