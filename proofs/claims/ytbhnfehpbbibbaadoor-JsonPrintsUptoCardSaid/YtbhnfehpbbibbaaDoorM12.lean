/- Package json's keys: it ends in the error 300 just where an object's keys may not be. For every world. -/
import Derived.Test.YtbhnfehpbbibbaaDoorM11

namespace Go.Proofs.YtbhnfehpbbibbaaDoor
open Go.RowKit

def KPost (r : Bool) (w : World) (e : Ending) (w' : World) : Prop := e = (if r then .returned (.tuple #[]) else .panicked (fault 300)) ∧ Below w.heap.size w w'
theorem KPost.no {r w e w'} (h : r = false) (he : e = .panicked (fault 300)) (hb : Below w.heap.size w w') : KPost r w e w' := by rw [h]; exact ⟨he, hb⟩
theorem KPost.yes {r w e w'} (h : r = true) (he : e = .returned (.tuple #[])) (hb : Below w.heap.size w w') : KPost r w e w' := by rw [h]; exact ⟨he, hb⟩
theorem cell_keep {w w' : World} {b o : Nat} {v : Value} (h : w.cell? ⟨b, o, none⟩ = some v) (hb : Below w.heap.size w w') : w'.cell? ⟨b, o, none⟩ = some v := by
  rw [World.cell?_of_block (w := w) (w' := w') (a := ⟨b, o, none⟩) (hb.block b (cell_lt h))]; exact h
theorem keysB_ne {keys : List ByteArray} {n : Nat} (h : keys.length ≠ n) : keysB keys n = false := by unfold keysB; rw [decide_eq_false h]; rfl
theorem keysB_eq {keys : List ByteArray} {n : Nat} (h : keys.length = n) : keysB keys n = keysF [] keys := by unfold keysB; rw [decide_eq_true h]; rfl

set_option maxRecDepth 100000 in
set_option maxHeartbeats 4000000 in
theorem pkeys_any (B : Nat) (hB : B ≤ 140737488289792) (b off : Nat) (a0 a1 a2 a3 a4 a5 : Value) (k : Int) (q : Bool) (n : Int) (s : ByteArray) (l : List J) (keys : List ByteArray) (w : World) (ok : Nat → Prop)
    (hc : Cells w b off [a0, a1, a2, a3, a4, a5]) (h : JRep w ok [a0, a1, a2, a3, a4, a5] (.mk k q n s l keys)) (hl : l.length ≤ B) (hk : keys.length ≤ B) (hks : ∀ (i : Nat) (t : ByteArray), keys[i]? = some t → t.size ≤ B) :
    Calls Tryd.prog 55 #[.pointer (some ⟨b, off, none⟩)] w (KPost (keysB keys l.length) w) := by
  obtain ⟨rfl, rfl, rfl, rfl, css, A1, c1, A2, c2, rfl, rfl, hcl, hL, hrec, hK⟩ := rep_parts h
  have HKS := Lib.hid hks
  have HK := Lib.hid hK
  obtain ⟨g0, g1, g2, g3, g4, g5⟩ := cells6 hc
  have hmm := @run_makeMap Tryd.prog
  clear hks h hc hcl hL hrec hK g0 g1 g2 g3
  by_cases hlen : keys.length = l.length
  case neg =>
    have HE := Lib.hid (keysB_ne hlen)
    have hd : ((keys.length : Int) != l.length) = true := bne_iff_ne.2 (by omega)
    clear hlen
    go_enter Tryd.func55, Tryd.ntmps55
    go_wp2_with fail
    go_quiet (fail)
    go_wp2_with fail
    refine (bad_any _).mono ?_
    rintro e w2 ⟨rfl, rfl⟩
    exact ⟨rfl, KPost.no HE.out rfl (by (repeat' (first | (with_reducible exact Below.refl _ _) | (with_reducible assumption) | (with_reducible refine below_drewN ?_ _) | (with_reducible refine Below.drew ?_) | (with_reducible refine Below.alloc ?_ ?_ _) | (with_reducible refine Below.setCell ?_ ?_ _) | (with_reducible exact Nat.le_refl _) | omega | (simp only [World.size_alloc, World.size_setCell, World.size_drew]; omega) | (simp; done) | (simp; omega))))⟩
  case pos =>
    have HE0 := Lib.hid (keysB_eq hlen)
    have hd : ((keys.length : Int) != l.length) = false := by rw [hlen]; simp
    have g5a : ∀ (n : Nat) (o : Obj), ((w.drewN n).alloc o).cell? ⟨b, off + 5, none⟩ = some (.slice A2 keys.length c2) := fun n o => cell_keep g5 (by (repeat' (first | (with_reducible exact Below.refl _ _) | (with_reducible assumption) | (with_reducible refine below_drewN ?_ _) | (with_reducible refine Below.drew ?_) | (with_reducible refine Below.alloc ?_ ?_ _) | (with_reducible refine Below.setCell ?_ ?_ _) | (with_reducible exact Nat.le_refl _) | omega | (simp only [World.size_alloc, World.size_setCell, World.size_drew]; omega) | (simp; done) | (simp; omega))))
    clear hlen
    go_enter Tryd.func55, Tryd.ntmps55
    go_wp2_with fail
    go_quiet (fail)
    go_wp2_with fail
    have HS : Hid (Seen ((w.drewN nq).alloc (.map #[] 0)) w.heap.size []) := Seen.new (w.drewN nq)
    have HB0 : Hid (Below w.heap.size w ((w.drewN nq).alloc (.map #[] 0))) := by show Below _ _ _; (repeat' (first | (with_reducible exact Below.refl _ _) | (with_reducible assumption) | (with_reducible refine below_drewN ?_ _) | (with_reducible refine Below.drew ?_) | (with_reducible refine Below.alloc ?_ ?_ _) | (with_reducible refine Below.setCell ?_ ?_ _) | (with_reducible exact Nat.le_refl _) | omega | (simp only [World.size_alloc, World.size_setCell, World.size_drew]; omega) | (simp; done) | (simp; omega)))
    have hz0 : w.heap.size < ((w.drewN nq).alloc (.map #[] 0)).heap.size := by simp
    generalize (w.drewN nq).alloc (.map #[] 0) = W0 at HS HB0 hz0 ⊢
    clear g4 g5 g5a
    go_loopw [23] (fun v23 wq => ∃ (m : Nat) (wz : World), v23 = .int .i64 m ∧ m ≤ keys.length ∧ wz = wq ∧ Hid (Seen wz w.heap.size (keys.take m) ∧ keysF [] (keys.take m) = true ∧ Below w.heap.size w wz)) (fun v23 _ => keys.length - (intOf v23).toNat)
    case atStart => exact ⟨0, _, rfl, Nat.zero_le _, rfl, HS.out, rfl, HB0.out⟩
    case round =>
      obtain ⟨m, wz, rfl, hm, hwz, H⟩ := hrel
      subst hwz
      by_cases hmk : m < keys.length
      case neg =>
        obtain rfl : m = keys.length := by omega
        have HE : Hid (keysB keys l.length = true) := by have h := H.out.2.1; rw [List.take_length] at h; show _ = _; rw [HE0.out]; exact h
        go_wp2_with fail
        go_end0
        exact KPost.yes HE.out rfl H.out.2.2
      case pos =>
        obtain ⟨t, ht⟩ : ∃ t, keys[m]? = some t := ⟨_, List.getElem?_eq_getElem hmk⟩
        have ht2 : (keys.map fun t => [Value.string t])[m]? = some [Value.string t] := by rw [List.getElem?_map, ht]; rfl
        obtain ⟨b1, o1, rfl, _, _, hc⟩ := HK.out.elem ht2
        have g1 : wz.cell? ⟨b1, o1 + m, none⟩ = some (.string t) := by have := hc.keep H.out.2.2 0 _ rfl; simpa using this
        have hts := HKS.out m t ht
        have hkey : t.size ≤ maxLen := by unfold maxLen; omega
        have hlook := H.out.1.look t hkey
        have HAT := Lib.hid (keysF_at ht)
        have hmt : Hid ((keys.take m).length = m) := by show _ = _; rw [List.length_take]; omega
        clear hc ht2
        have HT := Lib.hid ht
        clear ht
        cases hmem : memB t (keys.take m) with
        | true =>
          have HE : Hid (keysB keys l.length = false) := by show _ = _; rw [HE0.out]; refine keysF_take (m + 1) ?_; rw [HAT.out, hmem]; simp
          rw [hmem] at hlook
          clear hmem
          go_wp2_with fail
          refine (bad_any _).mono ?_
          rintro e w2 ⟨rfl, rfl⟩
          exact ⟨rfl, KPost.no HE.out rfl H.out.2.2⟩
        | false =>
          rw [hmem] at hlook
          have HM := Lib.hid hmem
          clear hmem
          go_wp2_with fail
          refine (valid_any t wz (by omega)).mono ?_
          intro e w2 hx
          have HB2 := Lib.hid hx.2
          have he := hx.1
          clear hx
          cases hv : validS t with
          | false =>
            rw [hv] at he
            subst he
            have HE : Hid (keysB keys l.length = false) := by show _ = _; rw [HE0.out]; refine keysF_take (m + 1) ?_; rw [HAT.out, hv]; simp
            clear hv
            go_wp2_with fail
            refine (bad_any _).mono ?_
            rintro e w3 ⟨rfl, rfl⟩
            exact ⟨rfl, KPost.no HE.out rfl (H.out.2.2.trans (HB2.out.mono H.out.2.2.size))⟩
          | true =>
            rw [hv] at he
            subst he
            have HE : Hid (keysF [] (keys.take (m + 1)) = true) := by show _ = _; rw [HAT.out, hv, HM.out, H.out.2.1]; rfl
            have hseen2 : Hid (Seen w2 w.heap.size (keys.take m)) := H.out.1.kept (row := none) ⟨HB2.out.os, HB2.out.tape, HB2.out.output, HB2.out.size, fun k hk _ => HB2.out.block k hk⟩ (by simp)
            clear hv hlook
            go_wp2_with (at_mapUpdate; refine wpList_mapUpdate_own _ rfl _ _ _ 78 rfl 9 4 keyed Tryd.underlying78 (plainElem (H := Unit) Tryd.prog 4) w.heap.size (keys.take m).length (seenD (keys.take m)) rfl hseen2.out (by unfold maxLen; have := hmt.out; omega) _ _ (klit t) rfl rfl (key_of hkey) (.lit (.bool true)) [] (plainElem_bool Tryd.underlying4 true) ?_)
            intro w4 hown4 hgr4
            have H4 : Hid (Seen w4 w.heap.size (keys.take (m + 1)) ∧ keysF [] (keys.take (m + 1)) = true ∧ Below w.heap.size w w4) := by
              refine ⟨?_, HE.out, ?_⟩
              · have e1 : keys.take (m + 1) = keys.take m ++ [t] := by rw [List.take_add_one, HT.out]; rfl
                rw [e1]
                unfold Seen; rw [seen_snoc, List.length_append, hmt.out]; exact hown4
              · refine (H.out.2.2.trans (HB2.out.mono H.out.2.2.size)).trans ⟨hgr4.os, hgr4.tape, hgr4.output, hgr4.size, fun k hk => hgr4.block k ?_ (fun e => by injection e with e; omega)⟩
                have := H.out.2.2.size; have := HB2.out.size; omega
            clear hown4 hgr4 HE
            go_wp2_with fail
            go_roundw
            case rel => exact ⟨m + 1, _, by go_num, by omega, rfl, H4.out⟩
            case measure => simp [intOf]; omega

end Go.Proofs.YtbhnfehpbbibbaaDoor
