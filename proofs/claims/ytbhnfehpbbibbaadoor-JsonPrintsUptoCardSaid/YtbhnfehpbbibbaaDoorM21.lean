/- Package json's Print: for every value the text or the error that the plain function gives. The reference's Print: for every value the text or the error that the plain function gives. Package json's clone: what it hands back reads as what came in, and lies in new memory. For every world. -/
import Derived.Test.YtbhnfehpbbibbaaDoorM13
import Derived.Test.YtbhnfehpbbibbaaDoorM09
import Derived.Test.YtbhnfehpbbibbaaDoorM20
import Derived.Test.YtbhnfehpbbibbaaDoorM08
import Derived.Deep.RegionWith
import Derived.Deep.RegionLaw

namespace Go.Proofs.YtbhnfehpbbibbaaDoor
open Go.RowKit

def PrintPost (x : J) (w : World) (e : Ending) (w' : World) : Prop :=
  Below w.heap.size w w' ∧
  match printS x with
  | .error c => e = .returned (.tuple #[.string ⟨#[]⟩, .int .i64 c])
  | .ok o => e = .returned (.tuple #[.string ⟨o.toArray⟩, .int .i64 0])
theorem PrintPost.no {x w e w' c} (hb : Below w.heap.size w w') (h : printS x = .error c) (he : e = .returned (.tuple #[.string ⟨#[]⟩, .int .i64 c])) : PrintPost x w e w' := by unfold PrintPost; rw [h]; exact ⟨hb, he⟩
theorem PrintPost.yes {x w e w' o} (hb : Below w.heap.size w w') (h : printS x = .ok o) (he : e = .returned (.tuple #[.string ⟨o.toArray⟩, .int .i64 0])) : PrintPost x w e w' := by unfold PrintPost; rw [h]; exact ⟨hb, he⟩

/-- block R is a variable of type string -/
def SB (w : World) (R : Nat) (t : ByteArray) : Prop := w.heap[R]? = some (.cells #[.string t] 9 (0, 0))
theorem SB.new (w : World) (t : ByteArray) : SB (w.alloc (.cells #[.string t] 9)) w.heap.size t := by show (w.heap.push _)[w.heap.size]? = _; simp
theorem SB.lt {w : World} {R : Nat} {t : ByteArray} (h : SB w R t) : R < w.heap.size := (Array.getElem?_eq_some_iff.1 h).1
theorem SB.cell {w : World} {R : Nat} {t : ByteArray} (h : SB w R t) : w.cell? ⟨R, 0, none⟩ = some (.string t) := by unfold SB at h; simp [World.cell?, h]
theorem SB.frozen {w : World} {R : Nat} {t : ByteArray} (h : SB w R t) : w.frozen? ⟨R, 0, none⟩ = false := by unfold SB at h; simp [World.frozen?, h]
theorem SB.set {w : World} {R : Nat} {t : ByteArray} (h : SB w R t) (u : ByteArray) : SB (w.setCell ⟨R, 0, none⟩ (.string u)) R u := blk_set h 0 _
theorem SB.only {w w' : World} {R E : Nat} {t : ByteArray} (h : SB w R t) (ho : Only E w w') (hne : R ≠ E) : SB w' R t := (ho.block R hne).trans h
theorem SB.alloc {w : World} {R : Nat} {t : ByteArray} (h : SB w R t) (o : Obj) : SB (w.alloc o) R t := (Below.heap_alloc w o R h.lt).trans h
theorem SB.pfr {w w' : World} {R g : Nat} {t : ByteArray} (h : SB w R t) (hf : PFr g w w') (hg : R < g) : SB w' R t := (hf.block R h.lt (.inl hg)).trans h
theorem EB.pfr {w w' : World} {R g : Nat} {c : Int} (h : EB w R c) (hf : PFr g w w') (hg : R < g) : EB w' R c := (hf.block R h.lt (.inl hg)).trans h

theorem print1_idle (E R : Nat) (u : FrameMode) (w : World) (hc : w.cell? ⟨E, 0, none⟩ = some (.int .i64 0)) :
    CallsD Tryd.prog 21 #[.pointer (some ⟨E, 0, none⟩), .pointer (some ⟨R, 0, none⟩)] u w fun e u' w' => u' = u ∧ (e = .returned (.tuple #[]) ∧ w' = w) := by
  go_enter_d Tryd.func21, Tryd.ntmps21
  go_wp2
  go_end0
  exact ⟨rfl, rfl⟩
theorem print1_set (E R : Nat) (c : Int) (u : FrameMode) (w : World) {t : ByteArray} (hc : w.cell? ⟨E, 0, none⟩ = some (.int .i64 c)) (h0 : c ≠ 0) (hj : SB w R t) :
    CallsD Tryd.prog 21 #[.pointer (some ⟨E, 0, none⟩), .pointer (some ⟨R, 0, none⟩)] u w fun e u' w' => u' = u ∧ (e = .returned (.tuple #[]) ∧ w' = w.setCell ⟨R, 0, none⟩ (.string ⟨#[]⟩)) := by
  have h1 : (c != 0) = true := bne_iff_ne.2 h0
  have k0 := hj.cell
  have f0 := hj.frozen
  clear hj h0
  go_enter_d Tryd.func21, Tryd.ntmps21
  go_wp2
  go_end0
  exact ⟨rfl, rfl⟩

theorem print_results {tmps : Array Value} {W : World} {R E : Nat} {t : ByteArray} {n : Int} (h2 : tmps.getD 2 undef = .pointer (some ⟨R, 0, none⟩)) (h3 : tmps.getD 3 undef = .pointer (some ⟨E, 0, none⟩)) (hj : SB W R t) (he : EB W E n) :
    (results Tryd.f10 tmps).run Tryd.prog W = .ok (.tuple #[.string t, .int .i64 n]) W := by
  have k0 := hj.cell
  have ke := he.cell
  have h2' : tmps[2]?.getD undef = .pointer (some ⟨R, 0, none⟩) := by simpa using h2
  have h3' : tmps[3]?.getD undef = .pointer (some ⟨E, 0, none⟩) := by simpa using h3
  simp only [results, Tryd.results10]
  simp [h2', h3', go_sem, k0, ke]

theorem print_dies {x : J} {w w2 : World} {c : Int} {tmps : Array Value} {R E : Nat} (hRE : R ≠ E) (hR : w.heap.size ≤ R) (hE : w.heap.size ≤ E) (HE : printS x = .error c) (H2 : SB w2 R ⟨#[]⟩ ∧ EB w2 E 0 ∧ Below w.heap.size w w2)
    (h2 : tmps.getD 2 undef = .pointer (some ⟨R, 0, none⟩)) (h3 : tmps.getD 3 undef = .pointer (some ⟨E, 0, none⟩)) :
    Leaves Tryd.prog Tryd.f10 tmps (PrintPost x w) [{ target := .fn (.func 14) #[], args := #[.pointer (some ⟨E, 0, none⟩)] }, { target := .fn (.func 21) #[.pointer (some ⟨E, 0, none⟩), .pointer (some ⟨R, 0, none⟩)], args := #[] }] (.panicking (fault c)) w2 := by
  refine leaves_cons (f := 14) (args := #[.pointer (some ⟨E, 0, none⟩)]) (by simp) (by simp [go_sem]) ?_
  refine (catch_panicking E c 0 [] _ H2.2.1.cell H2.2.1.frozen).mono ?_
  rintro e u' w'' ⟨rfl, rfl, rfl⟩
  have ho : Only E (w2.alloc (.cells #[.int .i64 c] 65)) ((w2.alloc (.cells #[.int .i64 c] 65)).setCell ⟨E, 0, none⟩ (.int .i64 c)) := (Only.refl _ _).set 0 _
  have hJ := (H2.1.alloc (.cells #[.int .i64 c] 65)).only ho hRE
  have hE2 := (H2.2.1.alloc (.cells #[.int .i64 c] 65)).set c
  have hB := below_only (H2.2.2.alloc H2.2.2.size (.cells #[.int .i64 c] 65)) ho hE
  generalize (w2.alloc (.cells #[.int .i64 c] 65)).setCell ⟨E, 0, none⟩ (.int .i64 c) = w3 at hJ hE2 hB
  refine leaves_cons (f := 21) (args := #[.pointer (some ⟨E, 0, none⟩), .pointer (some ⟨R, 0, none⟩)]) (by simp [settle]) (by simp [go_sem]) ?_
  by_cases h0 : c = 0
  · subst h0
    refine (print1_idle E R _ _ hE2.cell).mono ?_
    rintro e u' w'' ⟨rfl, rfl, rfl⟩
    exact ⟨_, print_results h2 h3 hJ hE2, PrintPost.no hB HE rfl⟩
  · refine (print1_set E R c _ _ hE2.cell h0 hJ).mono ?_
    rintro e u' w'' ⟨rfl, rfl, rfl⟩
    have ho2 : Only R w3 (w3.setCell ⟨R, 0, none⟩ (.string ⟨#[]⟩)) := (Only.refl _ _).set 0 _
    exact ⟨_, print_results h2 h3 (hJ.set _) (hE2.only ho2 hRE.symm), PrintPost.no (below_only hB ho2 hR) HE rfl⟩

structure PQI (w wr : World) (a0 a1 a2 a3 a4 a5 : Value) : Prop where
  arg : JB wr w.heap.size a0 a1 a2 a3 a4 a5
  res : SB wr (w.heap.size + 1) ⟨#[]⟩
  err : EB wr (w.heap.size + 1 + 1) 0
  bel : Below w.heap.size w wr
theorem PQI.start (w : World) (a0 a1 a2 a3 a4 a5 : Value) : PQI w ((((w.alloc (.cells #[a0, a1, a2, a3, a4, a5] 25)).alloc (.cells #[.string ⟨#[]⟩] 9)).alloc (.cells #[.int .i64 0] 26)).alloc (.cells #[.slice none 0 0] 55)) a0 a1 a2 a3 a4 a5 ∧
    PW ((((w.alloc (.cells #[a0, a1, a2, a3, a4, a5] 25)).alloc (.cells #[.string ⟨#[]⟩] 9)).alloc (.cells #[.int .i64 0] 26)).alloc (.cells #[.slice none 0 0] 55)) (w.heap.size + 1 + 1 + 1) (.slice none 0 0) [] := by
  have j1 := JB.new w a0 a1 a2 a3 a4 a5
  have b1 := (Below.refl w.heap.size w).alloc (Nat.le_refl _) (.cells #[a0, a1, a2, a3, a4, a5] 25)
  generalize hwa : w.alloc (.cells #[a0, a1, a2, a3, a4, a5] 25) = wa at *
  have sa : wa.heap.size = w.heap.size + 1 := by rw [← hwa]; simp
  have s1 := SB.new wa ⟨#[]⟩
  have b2 := b1.alloc (by omega) (.cells #[.string ⟨#[]⟩] 9)
  have j2 := j1.alloc (.cells #[.string ⟨#[]⟩] 9)
  generalize hwb : wa.alloc (.cells #[.string ⟨#[]⟩] 9) = wb at *
  have sb : wb.heap.size = w.heap.size + 1 + 1 := by rw [← hwb]; simp [sa]
  have e1 := EB.new wb 0
  have b3 := b2.alloc (by omega) (.cells #[.int .i64 0] 26)
  have j3 := j2.alloc (.cells #[.int .i64 0] 26)
  have s2 := s1.alloc (.cells #[.int .i64 0] 26)
  generalize hwc : wb.alloc (.cells #[.int .i64 0] 26) = wc at *
  have sc : wc.heap.size = w.heap.size + 1 + 1 + 1 := by rw [← hwc]; simp [sb]
  refine ⟨⟨j3.alloc _, ?_, ?_, b3.alloc (by omega) _⟩, ?_, BRow.nil _ _⟩
  · rw [← sa]; exact s2.alloc _
  · rw [← sb]; exact e1.alloc _
  · rw [← sc]; show (wc.heap.push _)[wc.heap.size]? = _; simp
theorem PQI.pfr {w wr w' : World} {a0 a1 a2 a3 a4 a5 : Value} (h : PQI w wr a0 a1 a2 a3 a4 a5) (hf : PFr (w.heap.size + 1 + 1 + 1) wr w') : PQI w w' a0 a1 a2 a3 a4 a5 :=
  ⟨(hf.block _ h.arg.lt (.inl (by omega))).trans h.arg, h.res.pfr hf (by omega), h.err.pfr hf (by omega), h.bel.trans ⟨hf.os, hf.tape, hf.output, hf.size, fun k hk => hf.block k (by have := h.bel.size; omega) (.inl (by omega))⟩⟩
theorem jb_cells {w : World} {R : Nat} {a0 a1 a2 a3 a4 a5 : Value} (h : JB w R a0 a1 a2 a3 a4 a5) : Cells w R 0 [a0, a1, a2, a3, a4, a5] := fun j u hj => by
  obtain ⟨k0, k1, k2, k3, k4, k5⟩ := h.cell
  match j, hj with
  | 0, hj => simp at hj; subst hj; exact k0
  | 1, hj => simp at hj; subst hj; exact k1
  | 2, hj => simp at hj; subst hj; exact k2
  | 3, hj => simp at hj; subst hj; exact k3
  | 4, hj => simp at hj; subst hj; exact k4
  | 5, hj => simp at hj; subst hj; exact k5
theorem Tab.up {a b : Nat} {w : World} (h : Tab a w) (hab : a ≤ b) : Tab b w := fun w' hb => h w' (hb.mono hab)

set_option maxRecDepth 100000 in
set_option maxHeartbeats 8000000 in
theorem print_any (B : Nat) (hB : B ≤ 140737488289792) (a0 a1 a2 a3 a4 a5 : Value) (x : J) (ok : Nat → Prop) (w : World) (h : JRep w ok [a0, a1, a2, a3, a4, a5] x) (hok : ∀ b, ok b → b < w.heap.size) (hsm : Sm B x) (htab : Tab w.heap.size w) :
    Calls Tryd.prog 10 #[.agg #[a0, a1, a2, a3, a4, a5]] w (PrintPost x w) := by
  obtain ⟨z1, z2, z3, z4, A1, l1, m1, A2, l2, m2, rfl, rfl, rfl, rfl, rfl, rfl⟩ := rep_form h
  have hmf : ∀ (fn : Fn) (first cap : Array Value) (w : World), (Instr.makeFunc fn first cap).run Tryd.prog w = .ok (.func fn first cap) w := fun _ _ _ _ => rfl
  have HR0 := Lib.hid h
  have HOK := Lib.hid hok
  have HT := Lib.hid htab
  have HSM := Lib.hid hsm
  clear h hok htab hsm
  go_enter_defers Tryd.func10, Tryd.ntmps10
  go_wp2_with fail
  have H0 := Lib.hid (PQI.start w (.int .i64 z1) (.bool z2) (.int .i64 z3) (.string z4) (.slice A1 l1 m1) (.slice A2 l2 m2))
  generalize (((w.alloc (.cells #[.int .i64 z1, .bool z2, .int .i64 z3, .string z4, .slice A1 l1 m1, .slice A2 l2 m2] 25)).alloc (.cells #[.string ⟨#[]⟩] 9)).alloc (.cells #[.int .i64 0] 26)).alloc (.cells #[.slice none 0 0] 55) = W0 at H0 ⊢
  have HR : Hid (JRep W0 (fun i => i < w.heap.size + 1 + 1 + 1) [.int .i64 z1, .bool z2, .int .i64 z3, .string z4, .slice A1 l1 m1, .slice A2 l2 m2] x) := HR0.out.mono fun b hb1 hlt => ⟨by omega, H0.out.1.bel.block b hlt⟩
  have HT0 : Hid (Tab (w.heap.size + 1 + 1 + 1) W0) := (HT.out.on H0.out.1.bel).up (by omega)
  refine (pvalue_all 16 (by omega) B hB (w.heap.size + 1 + 1 + 1) (.slice none 0 0) [] w.heap.size 0 _ _ _ _ _ _ x 0 W0 H0.out.2 (by simp) (by omega) (jb_cells H0.out.1.arg) HR.out HSM.out HT0.out (by omega)).mono ?_
  intro e w2 hx
  have HX := Lib.hid hx
  clear hx
  cases hv : printS x with
  | error c =>
    obtain ⟨rfl, hf⟩ := HX.out.at_error hv
    have H2 := Lib.hid (H0.out.1.pfr hf)
    exact print_dies (by omega) (by omega) (by omega) hv ⟨H2.out.res, H2.out.err, H2.out.bel⟩ rfl rfl
  | ok o =>
    obtain ⟨v, rfl, hp, hf⟩ := HX.out.at_ok hv
    have H2 : Hid (PQI w w2 (.int .i64 z1) (.bool z2) (.int .i64 z3) (.string z4) (.slice A1 l1 m1) (.slice A2 l2 m2) ∧ PW w2 (w.heap.size + 1 + 1 + 1) v o) := ⟨H0.out.1.pfr hf, hp⟩
    have HV : Hid (printS x = .ok o) := hv
    clear hp hf hv HX
    have k0 := H2.out.2.c0
    have hconv := H2.out.2.2.text
    obtain ⟨A, c, hvf⟩ := own_form H2.out.2.2
    subst hvf
    have s0 := H2.out.1.res.cell
    have s1 := H2.out.1.res.frozen
    have e0 := H2.out.1.err.cell
    have e1 := H2.out.1.err.frozen
    go_wp2_with fail
    have ho1 : Only (w.heap.size + 1) w2 (w2.setCell ⟨w.heap.size + 1, 0, none⟩ (.string ⟨o.toArray⟩)) := (Only.refl _ _).set 0 _
    have hs1 := H2.out.1.res.set ⟨o.toArray⟩
    have he1 := H2.out.1.err.only ho1 (by omega)
    have hb1 := below_only H2.out.1.bel ho1 (by omega)
    generalize w2.setCell ⟨w.heap.size + 1, 0, none⟩ (.string ⟨o.toArray⟩) = w3 at *
    have ho2 : Only (w.heap.size + 1 + 1) w3 (w3.setCell ⟨w.heap.size + 1 + 1, 0, none⟩ (.int .i64 0)) := (Only.refl _ _).set 0 _
    have hs2 := hs1.only ho2 (by omega)
    have he2 := he1.set 0
    have hb2 := below_only hb1 ho2 (by omega)
    refine leaves_cons (f := 14) (args := #[.pointer (some ⟨w.heap.size + 1 + 1, 0, none⟩)]) (by simp) (by simp [go_sem]) ?_
    refine (catch_idle _ _).mono ?_
    rintro e u' w'' ⟨rfl, rfl, rfl⟩
    refine leaves_cons (f := 21) (args := #[.pointer (some ⟨w.heap.size + 1 + 1, 0, none⟩), .pointer (some ⟨w.heap.size + 1, 0, none⟩)]) (by simp [settle]) (by simp [go_sem]) ?_
    refine (print1_idle (w.heap.size + 1 + 1) (w.heap.size + 1) _ _ he2.cell).mono ?_
    rintro e u' w'' ⟨rfl, rfl, rfl⟩
    exact ⟨_, print_results rfl rfl hs2 he2, PrintPost.yes hb2 HV.out rfl⟩

end Go.Proofs.YtbhnfehpbbibbaaDoor

namespace Go.Proofs.YtbhnfehpbbibbaaDoor
open Go.RowKit

theorem rp_start (w : World) (a0 a1 a2 a3 a4 a5 : Value) : RW ((w.alloc (.cells #[a0, a1, a2, a3, a4, a5] 25)).alloc (.cells #[.slice none 0 0, .int .i64 0] 60)) (w.heap.size + 1) (.slice none 0 0) [] 0 ∧
    Below w.heap.size w ((w.alloc (.cells #[a0, a1, a2, a3, a4, a5] 25)).alloc (.cells #[.slice none 0 0, .int .i64 0] 60)) := by
  have b1 := (Below.refl w.heap.size w).alloc (Nat.le_refl _) (.cells #[a0, a1, a2, a3, a4, a5] 25)
  generalize hwa : w.alloc (.cells #[a0, a1, a2, a3, a4, a5] 25) = wa at *
  have sa : wa.heap.size = w.heap.size + 1 := by rw [← hwa]; simp
  refine ⟨⟨?_, BRow.nil _ _⟩, b1.alloc (by omega) _⟩
  rw [← sa]; show (wa.heap.push _)[wa.heap.size]? = _; simp

set_option maxRecDepth 100000 in
set_option maxHeartbeats 4000000 in
theorem rprint_any (B : Nat) (hB : B ≤ 33554432) (a0 a1 a2 a3 a4 a5 : Value) (x : J) (ok : Nat → Prop) (w : World) (h : JRep w ok [a0, a1, a2, a3, a4, a5] x) (hok : ∀ b, ok b → b < w.heap.size) (hsm : Sm B x) :
    Calls Tryd.prog 11 #[.agg #[a0, a1, a2, a3, a4, a5]] w (PrintPost x w) := by
  obtain ⟨z1, z2, z3, z4, A1, l1, m1, A2, l2, m2, rfl, rfl, rfl, rfl, rfl, rfl⟩ := rep_form h
  have HR0 := Lib.hid h
  have HOK := Lib.hid hok
  have HSM := Lib.hid hsm
  clear h hok hsm
  go_enter Tryd.func11, Tryd.ntmps11
  go_wp2_with fail
  have H0 := Lib.hid (rp_start w (.int .i64 z1) (.bool z2) (.int .i64 z3) (.string z4) (.slice A1 l1 m1) (.slice A2 l2 m2))
  generalize (w.alloc (.cells #[.int .i64 z1, .bool z2, .int .i64 z3, .string z4, .slice A1 l1 m1, .slice A2 l2 m2] 25)).alloc (.cells #[.slice none 0 0, .int .i64 0] 60) = W0 at H0 ⊢
  have HR : Hid (JRep W0 (fun i => i < w.heap.size + 1) [.int .i64 z1, .bool z2, .int .i64 z3, .string z4, .slice A1 l1 m1, .slice A2 l2 m2] x) := HR0.out.mono fun b hb1 hlt => ⟨by omega, H0.out.2.block b hlt⟩
  refine (rpvalue_all 16 (by omega) B hB (w.heap.size + 1) (.slice none 0 0) [] 0 _ _ _ _ _ _ x 0 W0 H0.out.1 (by simp) HR.out HSM.out (by omega)).mono ?_
  rintro e w2 ⟨rfl, hf, v1, o1, c1, hp, hn, ho1⟩
  have hz0 : w.heap.size + 1 < W0.heap.size := H0.out.1.lt
  have HB2 : Hid (Below w.heap.size w w2) := H0.out.2.trans ((hf.toBelow (by omega)).mono (by omega))
  have HP := Lib.hid hp
  have HN : Hid (nS o1 c1 = printS x) := by
    show _ = _
    rw [hn, nS_ok (by simp)]; rfl
  have hgl := hp.lt
  clear hf hp hn HR HR0 HOK HSM H0 hz0
  go_wp2_with fail
  refine (radd_exact (w.heap.size + 1) v1 o1 c1 ⟨#[]⟩ w2 HP.out ho1 (by decide)).mono ?_
  rintro e w3 ⟨rfl, hf, v3, hp3⟩
  have HB3 : Hid (Below w.heap.size w w3) := HB2.out.trans ((hf.toBelow (by omega)).mono (by omega))
  by_cases hc : c1 = 0 ∧ ¬ 65536 < o1.length
  · obtain ⟨rfl, hl⟩ := hc
    have hE : raddF o1 0 (⟨#[]⟩ : ByteArray).data.toList = (o1, 0) := by unfold raddF; rw [if_pos rfl, if_neg hl]; simp
    rw [hE] at hp3
    have HE : Hid (printS x = .ok o1) := by show _ = _; rw [← HN.out, nS_ok hl]
    have hconv := hp3.2.text
    obtain ⟨A, cc, hvf⟩ := own_form hp3.2
    subst hvf
    have k0 := hp3.c0
    have k1 := hp3.c1
    clear hf hp3 hE hl
    go_wp2_with fail
    go_ret2
    exact PrintPost.yes HB3.out HE.out rfl
  · have HE : Hid (∃ y, y ≠ 0 ∧ raddF o1 c1 (⟨#[]⟩ : ByteArray).data.toList = (o1, y) ∧ nS o1 c1 = .error y) := by
      by_cases h0 : c1 = 0
      · subst h0
        have hl : 65536 < o1.length := by
          by_cases hl : 65536 < o1.length
          · exact hl
          · exact absurd ⟨rfl, hl⟩ hc
        exact ⟨302, by decide, by unfold raddF; rw [if_pos rfl, if_pos hl], nS_long hl⟩
      · exact ⟨c1, h0, if_neg h0, nS_err h0⟩
    obtain ⟨y, hy0, hy1, hy2⟩ := HE.out
    rw [hy1] at hp3
    have HE2 : Hid (printS x = .error y) := by show _ = _; rw [← HN.out, hy2]
    have k1 := hp3.c1
    have hyb : (y != 0) = true := bne_iff_ne.2 hy0
    clear hf hp3 hy0 hy1 hy2 HE hc
    go_wp2_with fail
    go_quiet (fail)
    go_wp2_with fail
    go_ret2
    exact PrintPost.no (below_drewN HB3.out _) HE2.out rfl

end Go.Proofs.YtbhnfehpbbibbaaDoor

namespace Go.Proofs.YtbhnfehpbbibbaaDoor
open Go.RowKit

/-- what holds as members are added -/
structure CloneI (B R base : Nat) (k : Int) (q : Bool) (n : Int) (s : ByteArray) (w wr : World) (keys : List ByteArray) (l : List J) (Lv Kv : Value) (css : List (List Value)) : Prop where
  bel : Below w.heap.size w wr
  res : JB wr R (.int .i64 0) (.bool false) (.int .i64 0) (.string ⟨#[]⟩) (.slice none 0 0) (.slice none 0 0)
  out : JB wr B (.int .i64 k) (.bool q) (.int .i64 n) (.string s) Lv Kv
  ownL : wr.ownsRow base 25 6 Lv l.length css.flatten
  cssl : css.length = l.length
  six : ∀ c ∈ css, c.length = 6
  rep : ∀ (i : Nat) (cs : List Value) (x : J), css[i]? = some cs → l[i]? = some x → JRep wr (okE base Lv Kv) cs x
  ownK : wr.ownsRow base 9 1 Kv keys.length (keys.map Value.string)
  ble : base ≤ wr.heap.size
theorem own_below {w w' : World} {base e sz n : Nat} {v : Value} {xs : List Value} (h : w.ownsRow base e sz v n xs) (hb : Below w.heap.size w w') : w'.ownsRow base e sz v n xs :=
  World.ownsRow.kept h (row := none) ⟨hb.os, hb.tape, hb.output, hb.size, fun k hk _ => hb.block k hk⟩ (by cases v.ownBlock <;> simp)
theorem CloneI.next {B R base : Nat} {k : Int} {q : Bool} {n : Int} {s : ByteArray} {w wr w' : World} {keys : List ByteArray} {l : List J} {Lv Kv : Value} {css : List (List Value)} (h : CloneI B R base k q n s w wr keys l Lv Kv css) (hb : Below wr.heap.size wr w') :
    CloneI B R base k q n s w w' keys l Lv Kv css :=
  ⟨Below.trans2 h.bel hb, h.res.below hb, h.out.below hb, own_below h.ownL hb, h.cssl, h.six, fun i cs x hi hx => (h.rep i cs x hi hx).mono fun b hb1 hlt => ⟨hb1, hb.block b hlt⟩, own_below h.ownK hb, by have := h.ble; have := hb.size; omega⟩
theorem CloneI.neL {B R base : Nat} {k : Int} {q : Bool} {n : Int} {s : ByteArray} {w wr : World} {keys : List ByteArray} {l : List J} {Lv Kv : Value} {css : List (List Value)} (h : CloneI B R base k q n s w wr keys l Lv Kv css) {z : Nat} (hz : z < base) : some z ≠ Lv.ownBlock := fun e => by have := (World.ownsRow.lt h.ownL z e.symm).1; omega
theorem CloneI.rep_end {B R base : Nat} {k : Int} {q : Bool} {n : Int} {s : ByteArray} {w wr : World} {keys : List ByteArray} {l : List J} {Lv Kv : Value} {css : List (List Value)} (h : CloneI B R base k q n s w wr keys l Lv Kv css) :
    JRep wr (fun b => base ≤ b) [.int .i64 k, .bool q, .int .i64 n, .string s, Lv, Kv] (.mk k q n s l keys) :=
  .mk css h.cssl (own_row h.ownL h.cssl.symm h.six) (fun i cs x hi hx => (h.rep i cs x hi hx).mono fun b hb1 _ => ⟨hb1.1, rfl⟩)
    (own_row (sz := 1) (css := keys.map fun t => [Value.string t]) (by rw [flat1]; exact h.ownK) (by simp) (by simp))
theorem CloneI.addMember {B R base : Nat} {k : Int} {q : Bool} {n : Int} {s : ByteArray} {w wr wa wb : World} {keys : List ByteArray} {l : List J} {Lv Kv Lv' : Value} {css : List (List Value)} {x : J} {cs : List Value} (h : CloneI B R base k q n s w wr keys l Lv Kv css)
    (hord : R < base ∧ B < base) (hw : w.heap.size ≤ R ∧ w.heap.size ≤ B) (hRB : R ≠ B)
    (hga : Below wr.heap.size wr wa) (hrep : JRep wr (fun b => base ≤ b ∧ Lv.ownBlock ≠ some b ∧ Kv.ownBlock ≠ some b) cs x) (hlen : cs.length = 6)
    (hown : wb.ownsRow base 25 6 Lv' (l.length + 1) (css.flatten ++ cs)) (hgb : wa.grownBy wb Lv.ownBlock) (hnew : ∀ j, Lv'.ownBlock = some j → Lv.ownBlock = some j ∨ wr.heap.size ≤ j) : CloneI B R base k q n s w (wb.setCell ⟨B, 4, none⟩ Lv') keys (l ++ [x]) Lv' Kv (css ++ [cs]) := by
  have hK := World.ownsRow.lt h.ownK
  have hL := World.ownsRow.lt h.ownL
  have hLK := own_ne_types h.ownL h.ownK (by decide)
  have hgL : ∀ z, z < base → some z ≠ Lv.ownBlock := fun z hz e => by have := (hL z e.symm).1; omega
  have hsz := hga.size
  have hbw := h.bel.size
  have hg2 : ∀ z, z < wr.heap.size → some z ≠ Lv.ownBlock → wb.heap[z]? = wr.heap[z]? := fun z hz hzK => (hgb.block z (by omega) hzK).trans (hga.block z hz)
  have hJ : JB wb B (.int .i64 k) (.bool q) (.int .i64 n) (.string s) Lv Kv := (hg2 B h.out.lt (hgL B (by omega))).trans h.out
  have ho : Only B wb (wb.setCell ⟨B, 4, none⟩ Lv') := (Only.refl B wb).set 4 Lv'
  have hrep2 : ∀ (cs : List Value) (x : J), JRep wr (okE base Lv Kv) cs x → JRep (wb.setCell ⟨B, 4, none⟩ Lv') (okE base Lv' Kv) cs x := by
    intro cs x hr
    refine hr.mono fun b hb1 hlt => ⟨⟨hb1.1, fun e => ?_, hb1.2.2⟩, (ho.block b (by have := hb1.1; omega)).trans (hg2 b hlt (fun e => hb1.2.1 e.symm))⟩
    rcases hnew b e with h3 | h3
    · exact hb1.2.1 h3
    · omega
  refine ⟨?_, ?_, hJ.set4 Lv', ?_, ?_, ?_, ?_, ?_, ?_⟩
  · refine below_only ?_ ho hw.2
    exact ⟨hgb.os.trans (hga.os.trans h.bel.os), hgb.tape.trans (hga.tape.trans h.bel.tape), hgb.output.trans (hga.output.trans h.bel.output), by have := hgb.size; omega, fun z hz => (hg2 z (by omega) (hgL z (by omega))).trans (h.bel.block z hz)⟩
  · exact (ho.block R hRB).trans ((hg2 R h.res.lt (hgL R (by omega))).trans h.res)
  · refine own_only ?_ ho (by omega)
    rw [List.length_append, List.flatten_append]
    simpa using hown
  · rw [List.length_append, List.length_append, h.cssl]; rfl
  · intro c hc
    rcases List.mem_append.1 hc with hc | hc
    · exact h.six c hc
    · rw [List.mem_singleton.1 hc]; exact hlen
  · intro i cs' x' hi hx
    by_cases hil : i < css.length
    · rw [List.getElem?_append_left hil] at hi
      rw [List.getElem?_append_left (by rw [← h.cssl]; exact hil)] at hx
      exact hrep2 _ _ (h.rep i cs' x' hi hx)
    · have hi2 : i = css.length := by
        have := (List.getElem?_eq_some_iff.1 hi).1
        rw [List.length_append] at this; simp at this; omega
      subst hi2
      rw [List.getElem?_append_right (Nat.le_refl _)] at hi
      rw [List.getElem?_append_right (by rw [h.cssl]; exact Nat.le_refl _), h.cssl] at hx
      simp at hi hx
      subst hi hx
      exact hrep2 _ _ hrep
  · refine own_only ?_ ho (by omega)
    have g1 : wr.grownBy wa none := ⟨hga.os, hga.tape, hga.output, hga.size, fun k hk _ => hga.block k hk⟩
    refine World.ownsRow.kept (World.ownsRow.kept h.ownK g1 (by cases Kv.ownBlock <;> simp)) hgb ?_
    cases hKo : Kv.ownBlock with
    | none => exact .inl rfl
    | some z => exact .inr (fun e => hLK z e.symm hKo)
  · rw [ho.size]; have := hgb.size; have := h.ble; omega

theorem addr_add (b o j : Nat) : (⟨b, o, none⟩ : Addr).add j = ⟨b, o + j, none⟩ := by
  unfold Addr.add
  split
  · next h => rw [h]; rfl
  · rfl
theorem run_append_empty {P : Program} (w : World) (t ty e : TypeId) (i : TypeInfo) (ht : P.underlying t = some (.slice e)) (hi : P.info? e = some i) (A : Option Addr) (c : Nat) :
    (Builtin.append_ #[t, t] ty #[.slice none 0 0, .slice A 0 c]).run P w = .ok (.slice none 0 0) w := by
  cases A with
  | none => simp [Builtin.append_, run_underlying ht, sizeOf, typeInfo, hi, Builtin.lenOf, Builtin.firstCells]
  | some a => simp [Builtin.append_, run_underlying ht, sizeOf, typeInfo, hi, Builtin.lenOf, Builtin.firstCells, loadCells, loadCellsFrom]
theorem wpList_append_empty {P : Program} {w : World} {ops : Array Oper} {rest : List Oper} {o : Oper} {a : Act} {Q : Exit → Act → World → Prop} (hgd : o.guard = none) (s x : Operand) (t : TypeId)
    (ho : o.op = .call { callee := .builtin .append, args := #[s, x], argTypes := #[t, t] }) (e : TypeId) (i : TypeInfo) (ht : P.underlying t = some (.slice e)) (hi : P.info? e = some i) (A : Option Addr) (c : Nat)
    (hs : a.eval s = .slice none 0 0) (hx : a.eval x = .slice A 0 c) (h : wpList P ops Q rest (a.put o.dst (.slice none 0 0)) w) : wpList P ops Q (o :: rest) a w := by
  refine wpList_plain hgd fun K hK => ?_
  have hrun := run_append_empty (P := P) w t o.type e i ht hi A c
  unfold Oper.wp
  simp [execOp, ho, resolve, invoke, builtin, hs, hx, hrun, Result.andThen]
  exact hK _ _ h

def ClonePost (x : J) (w : World) (e : Ending) (w' : World) : Prop := ∃ a b c d f g, e = .returned (.agg #[a, b, c, d, f, g]) ∧ Below w.heap.size w w' ∧ JRep w' (fun k => w.heap.size ≤ k) [a, b, c, d, f, g] x

set_option maxRecDepth 100000 in
set_option maxHeartbeats 8000000 in
theorem clone_step (B : Nat) (hB : B ≤ 33554432) (k : Int) (q : Bool) (n : Int) (s : ByteArray) (l : List J) (keys : List ByteArray) (hl : l.length ≤ B) (hk : keys.length ≤ B)
    (ih : ∀ (i : Nat) (x : J), l[i]? = some x → ∀ (ok : Nat → Prop) (w : World) (a b c d e f : Value), JRep w ok [a, b, c, d, e, f] x → Calls Tryd.prog 25 #[.agg #[a, b, c, d, e, f]] w (ClonePost x w))
    (ok : Nat → Prop) (w : World) (a b c d e f : Value) (h : JRep w ok [a, b, c, d, e, f] (.mk k q n s l keys)) :
    Calls Tryd.prog 25 #[.agg #[a, b, c, d, e, f]] w (ClonePost (.mk k q n s l keys) w) := by
  obtain ⟨rfl, rfl, rfl, rfl, css, A1, c1, A2, c2, rfl, rfl, hcl, hL, hrec, hK⟩ := rep_parts h
  obtain ⟨i0, hinfo, hz0, hz1, hz2⟩ := info_parts jinfo
  obtain ⟨i1, hinfo1, hy0, hy1, hy2⟩ := info_parts sinfo
  have IH := Lib.hid ih
  have HL := Lib.hid hL
  have HK := Lib.hid hK
  have HR := Lib.hid hrec
  have HC := Lib.hid hcl
  clear ih hL hK hrec hcl h
  have HJ := Lib.hid (boxes w (.int .i64 k) (.bool q) (.int .i64 n) (.string s) (.slice A1 l.length c1) (.slice A2 keys.length c2) (.int .i64 0) (.bool false) (.int .i64 0) (.string ⟨#[]⟩) (.slice none 0 0) (.slice none 0 0))
  have HB0 : Hid (Below w.heap.size w ((w.alloc (.cells #[.int .i64 k, .bool q, .int .i64 n, .string s, .slice A1 l.length c1, .slice A2 keys.length c2] 25)).alloc (.cells #[.int .i64 0, .bool false, .int .i64 0, .string ⟨#[]⟩, .slice none 0 0, .slice none 0 0] 25))) := ((Below.refl _ _).alloc (Nat.le_refl _) _).alloc (by simp) _
  have hsz0 : ((w.alloc (.cells #[.int .i64 k, .bool q, .int .i64 n, .string s, .slice A1 l.length c1, .slice A2 keys.length c2] 25)).alloc (.cells #[.int .i64 0, .bool false, .int .i64 0, .string ⟨#[]⟩, .slice none 0 0, .slice none 0 0] 25)).heap.size = w.heap.size + 1 + 1 := by simp
  have HS0 := Lib.hid hsz0
  clear hsz0
  by_cases hke : keys = []
  case pos =>
    subst hke
    go_enter Tryd.func25, Tryd.ntmps25
    go_wp2_with (at_builtin; refine wpList_append_empty rfl _ _ 23 rfl 9 i1 Tryd.underlying23 hinfo1 A2 c2 rfl rfl ?_)
    have HI0 : Hid (CloneI w.heap.size (w.heap.size + 1) (w.heap.size + 2) k q n s w ((w.alloc (.cells #[.int .i64 k, .bool q, .int .i64 n, .string s, .slice none 0 0, .slice none 0 0] 25)).alloc (.cells #[.int .i64 0, .bool false, .int .i64 0, .string ⟨#[]⟩, .slice none 0 0, .slice none 0 0] 25)) [] (l.take 0) (.slice none 0 0) (.slice none 0 0) []) := by
      obtain ⟨h1, h2⟩ := boxes w (.int .i64 k) (.bool q) (.int .i64 n) (.string s) (.slice none 0 0) (.slice none 0 0) (.int .i64 0) (.bool false) (.int .i64 0) (.string ⟨#[]⟩) (.slice none 0 0) (.slice none 0 0)
      exact ⟨((Below.refl _ _).alloc (Nat.le_refl _) _).alloc (by simp) _, h2, h1, World.ownsRow_nil _ _ _ _, rfl, by simp, by intro i cs x hi; simp at hi, World.ownsRow_nil _ _ _ _, by simp⟩
    go_loopg [15] (l.length) (fun nn v15 wr => ∃ (m : Nat) (Lv Kv : Value) (cs2 : List (List Value)), v15 = .int .i64 m ∧ m ≤ l.length ∧ nn = l.length - m ∧ Hid (CloneI w.heap.size (w.heap.size + 1) (w.heap.size + 2) k q n s w wr ([] : List ByteArray) (l.take m) Lv Kv cs2))
    case atStart => exact ⟨0, _, _, _, rfl, Nat.zero_le _, rfl, HI0.out⟩
    case round =>
      obtain ⟨m, Lv, Kv, cs2, rfl, hm, hn, HI⟩ := hrel
      have HN := Lib.hid hn
      clear hn HI0
      by_cases hml : m < l.length
      case neg =>
        obtain rfl : m = l.length := by omega
        obtain ⟨B1, d1, hLf⟩ := own_form HI.out.ownL
        obtain ⟨B2, d2, hKf⟩ := own_form HI.out.ownK
        subst hLf hKf
        obtain ⟨b0, b1, b2, b3, b4, b5⟩ := HI.out.out.cell
        obtain ⟨r0, r1, r2, r3, r4, r5⟩ := HI.out.res.cell
        have f0 := HI.out.res.frozen 0
        have f1 := HI.out.res.frozen 1
        have f2 := HI.out.res.frozen 2
        have f3 := HI.out.res.frozen 3
        have f4 := HI.out.res.frozen 4
        have f5 := HI.out.res.frozen 5
        have HE : Hid (JRep wr (fun b => w.heap.size + 2 ≤ b) [.int .i64 k, .bool q, .int .i64 n, .string s, .slice B1 (l.take l.length).length d1, .slice B2 ([] : List ByteArray).length d2] (.mk k q n s l ([] : List ByteArray))) := by have h := HI.out.rep_end; rw [List.take_length] at h ⊢; exact h
        rw [List.take_length] at b4 HE
        go_wp2_with fail
        refine ret_json Tryd.results25 rfl HI.out.res fun W ho hJ => ?_
        exact ⟨_, _, _, _, _, _, rfl, below_only HI.out.bel ho (by omega), HE.out.only ho (by omega) (by omega)⟩
      case pos =>
        obtain ⟨x, hx⟩ : ∃ t, l[m]? = some t := ⟨_, List.getElem?_eq_getElem hml⟩
        obtain ⟨cs, hcs⟩ : ∃ t, css[m]? = some t := ⟨_, List.getElem?_eq_getElem (by have := HC.out; omega)⟩
        obtain ⟨eb, eo, rfl, _, _, hc1⟩ := HL.out.elem hcs
        have hr1 := HR.out m cs x hcs hx
        obtain ⟨x0, x1, x2, x3, x4, x5, rfl⟩ := hr1.six
        obtain ⟨z1, z2, z3, z4, E1, l1, m1, E2, l2, m2, rfl, rfl, rfl, rfl, rfl, rfl⟩ := rep_form hr1
        obtain ⟨y0, y1, y2, y3, y4, y5⟩ := cells6 (hc1.keep HI.out.bel)
        have HRx := Lib.hid (hr1.stays HI.out.bel)
        have HX := Lib.hid hx
        have htl : Hid ((l.take m).length = m) := by show _ = _; rw [List.length_take]; omega
        have hts : Hid (l.take (m + 1) = l.take m ++ [x]) := by show _ = _; rw [List.take_add_one, hx]; rfl
        clear hc1 hr1 hcs hx
        go_wp2_with fail
        have HJV := Lib.hid (JB.new wr (.int .i64 z1) (.bool z2) (.int .i64 z3) (.string z4) (.slice E1 l1 m1) (.slice E2 l2 m2))
        have HI2 := Lib.hid (HI.out.next ((Below.refl _ _).alloc (Nat.le_refl _) (.cells #[.int .i64 z1, .bool z2, .int .i64 z3, .string z4, .slice E1 l1 m1, .slice E2 l2 m2] 25)))
        have HR2 := Lib.hid (HRx.out.stays ((Below.refl _ _).alloc (Nat.le_refl _) (.cells #[.int .i64 z1, .bool z2, .int .i64 z3, .string z4, .slice E1 l1 m1, .slice E2 l2 m2] 25)))
        have hwr : w.heap.size + 2 ≤ wr.heap.size := HI.out.ble
        have hv4 : ¬ wr.heap.size = w.heap.size := by omega
        clear y0 y1 y2 y3 y4 y5 HI HRx
        generalize wr.alloc (.cells #[.int .i64 z1, .bool z2, .int .i64 z3, .string z4, .slice E1 l1 m1, .slice E2 l2 m2] 25) = w2 at HJV HI2 HR2 ⊢
        obtain ⟨y0, y1, y2, y3, y4, y5⟩ := HJV.out.cell
        have b4 := HI2.out.out.cell.2.2.2.2.1
        go_region_law (first | (refine step_append_lies _ (by rfl) _ _ 22 (by rfl) (w.heap.size + 2) 25 i0 _ 6 88 Tryd.underlying22 hinfo hz0 hz1 hz2 rfl (by omega) Lv m cs2.flatten (by rfl) (by have h := World.ownsRow.alloc HI4.out.ownL; rw [htl.out] at h; exact h _) ⟨w4.heap.size, 0, none⟩ 1 1 [.int .i64 t1, .bool t2, .int .i64 t3, .string t4, .slice T1 tl1 tm1, .slice T2 tl2 tm2] (by rfl) (by rfl) (World.news_of_block (cs := #[.int .i64 t1, .bool t2, .int .i64 t3, .string t4, .slice T1 tl1 tm1, .slice T2 tl2 tm2]) (t := 25) (fr := (0, 0)) (heap_alloc_new w4 _)) (by simp [Value.oneCell']) (by omega) (by unfold maxLen; omega) (by omega) (by have := HI4.out.ble; simp; omega) (w4.heap.size + 1) (by simp) ?_; intro gg cap w6 hown6 hgr6 hat hlt; have J6 := HI4.out.out.grown2 hgr6 (HI4.out.neL (by omega)); have q6 := J6.cell.2.2.2.2.1; have f6 := J6.frozen 4; clear J6) | (go_simp; go_at_call 25; refine (IH.out m x HX.out _ _ _ _ _ _ _ _ (HR2.out.drew)).mono ?_; intro e w4 hq; obtain ⟨a, b, c, d, Lx, Kx, rfl, hb4, hr4⟩ := hq; obtain ⟨t1, t2, t3, t4, T1, tl1, tm1, T2, tl2, tm2, rfl, rfl, rfl, rfl, rfl, rfl⟩ := rep_form hr4; have HI4 := Lib.hid (HI2.out.next (below_undrew hb4)); have HR4 := Lib.hid hr4; have hsz4 : w2.heap.size ≤ w4.heap.size := hb4.size; have q4 := HI4.out.out.cell.2.2.2.2.1; have l4 := HI4.out.out.lt; clear hb4 hr4))
        all_goals
          have HX4 : Hid (JRep w4 (fun b => w.heap.size + 2 ≤ b ∧ Lv.ownBlock ≠ some b ∧ Kv.ownBlock ≠ some b) [.int .i64 t1, .bool t2, .int .i64 t3, .string t4, .slice T1 tl1 tm1, .slice T2 tl2 tm2] x) := HR4.out.mono fun b hb1 _ => by
            have e1 := HI2.out.ble
            have e2 : w2.heap.size ≤ b := hb1
            refine ⟨⟨by omega, fun e => ?_, fun e => ?_⟩, rfl⟩
            · have := (World.ownsRow.lt HI2.out.ownL b e).2; omega
            · have := (World.ownsRow.lt HI2.out.ownK b e).2; omega
          have HI6 := Lib.hid (HI4.out.addMember (by omega) (by omega) (by omega) ((Below.refl _ _).alloc (Nat.le_refl _) _) HX4.out rfl (by rw [htl.out]; exact hown6) hgr6 (fun j hj => by rcases hat with h | h <;> injection hj with hj <;> simp only at hj; exact .inl (by rw [← hj]; exact h); exact .inr (by omega)))
          rw [← hts.out] at HI6
          clear hat hown6 hgr6 q4 q6 f6 HI4 HX4 b4
          go_wp2_with fail
          go_roundg (l.length - (m + 1))
          case measure => have := HN.out; omega
          case rel => exact ⟨m + 1, _, _, _, by go_num, by omega, rfl, HI6.out⟩
  case neg =>
    obtain ⟨t0, ht0⟩ : ∃ t, keys[0]? = some t := ⟨_, List.getElem?_eq_getElem (List.length_pos_iff.2 hke)⟩
    obtain ⟨kb, ko, rfl, _, _, _⟩ := HK.out.elem (i := 0) (cs := [Value.string t0]) (by rw [List.getElem?_map, ht0]; rfl)
    have hkl : 0 < keys.length := List.length_pos_iff.2 hke
    have HCK : Hid (∀ (j : Nat) (u : Value), (keys.map Value.string)[j]? = some u → ((w.alloc (.cells #[.int .i64 k, .bool q, .int .i64 n, .string s, .slice A1 l.length c1, .slice (some ⟨kb, ko, none⟩) keys.length c2] 25)).alloc (.cells #[.int .i64 0, .bool false, .int .i64 0, .string ⟨#[]⟩, .slice none 0 0, .slice none 0 0] 25)).cell? ((⟨kb, ko, none⟩ : Addr).add j) = some u) := by
      intro j u hu
      rw [List.getElem?_map] at hu
      cases hj : keys[j]? with
      | none => rw [hj] at hu; cases hu
      | some t =>
        rw [hj] at hu
        injection hu with hu
        subst hu
        obtain ⟨b', o', hA, _, _, hc⟩ := HK.out.elem (i := j) (cs := [Value.string t]) (by rw [List.getElem?_map, hj]; rfl)
        injection hA with hA
        injection hA with hb1 ho1 _
        subst hb1 ho1
        have := hc.keep HB0.out 0 _ rfl
        rw [Nat.mul_one, Nat.add_zero] at this
        rw [addr_add]; exact this
    have HK3 := HK
    clear ht0 hke
    go_enter Tryd.func25, Tryd.ntmps25
    go_wp2_with (at_builtin; refine wpList_append_lies _ rfl _ _ 23 rfl (w.heap.size + 2) 9 i1 _ 1 16 Tryd.underlying23 hinfo1 hy0 hy1 hy2 rfl (by omega) (.slice none 0 0) 0 [] rfl (World.ownsRow_nil _ _ _ _) ⟨kb, ko, none⟩ keys.length c2 (keys.map Value.string) rfl (by rw [List.length_map, Nat.mul_one]) HCK.out (by intro v hv; simp only [List.mem_map] at hv; obtain ⟨b, _, rfl⟩ := hv; rfl) hkl (by unfold maxLen; omega) (by omega) (by simp) (w.heap.size + 1 + 1) (by simp) ?_)
    intro gg cap w5 hown5 hgr5 hat5 hlt5
    have hgg : w.heap.size + 2 ≤ gg := by rcases hat5 with h | h; cases h; omega
    have J5 : JB w5 w.heap.size (.int .i64 k) (.bool q) (.int .i64 n) (.string s) (.slice A1 l.length c1) (.slice (some ⟨kb, ko, none⟩) keys.length c2) := (hgr5.block _ (by rw [HS0.out]; omega) (by simp [Value.ownBlock])).trans HJ.out.1
    have R5 : JB w5 (w.heap.size + 1) (.int .i64 0) (.bool false) (.int .i64 0) (.string ⟨#[]⟩) (.slice none 0 0) (.slice none 0 0) := (hgr5.block _ (by rw [HS0.out]; omega) (by simp [Value.ownBlock])).trans HJ.out.2
    have hb5 : Below w.heap.size w w5 := HB0.out.trans ⟨hgr5.os, hgr5.tape, hgr5.output, hgr5.size, fun z hz => hgr5.block z (by rw [HS0.out]; omega) (by simp [Value.ownBlock])⟩
    have hs5 : w.heap.size + 2 ≤ w5.heap.size := by have := hgr5.size; rw [HS0.out] at this; omega
    have ho5 : Only w.heap.size w5 ((w5.setCell ⟨w.heap.size, 5, none⟩ (.slice (some ⟨gg, 0, none⟩) keys.length cap)).setCell ⟨w.heap.size, 4, none⟩ (.slice none 0 0)) := ((Only.refl _ w5).set 5 _).set 4 _
    have HI0 : Hid (CloneI w.heap.size (w.heap.size + 1) (w.heap.size + 2) k q n s w ((w5.setCell ⟨w.heap.size, 5, none⟩ (.slice (some ⟨gg, 0, none⟩) keys.length cap)).setCell ⟨w.heap.size, 4, none⟩ (.slice none 0 0)) keys (l.take 0) (.slice none 0 0) (.slice (some ⟨gg, 0, none⟩) keys.length cap) []) := by
      refine ⟨below_only hb5 ho5 (Nat.le_refl _), (ho5.block _ (by omega)).trans R5, (J5.set5 _).set4 _, World.ownsRow_nil _ _ _ _, rfl, by simp, by intro i cs x hi; simp at hi, own_only hown5 ho5 (by omega), by rw [ho5.size]; exact hs5⟩
    have j0 := J5.frozen 4
    have j1 := J5.frozen 5
    obtain ⟨j2, j3, j4, j5, j6, j7⟩ := J5.cell
    clear hown5 hgr5 hat5 hlt5 hgg J5 R5 hb5 hs5 ho5 HK3
    go_wp2_with fail
    clear j0 j1 j2 j3 j4 j5 j6 j7
    go_loopg [15] (l.length) (fun nn v15 wr => ∃ (m : Nat) (Lv Kv : Value) (cs2 : List (List Value)), v15 = .int .i64 m ∧ m ≤ l.length ∧ nn = l.length - m ∧ Hid (CloneI w.heap.size (w.heap.size + 1) (w.heap.size + 2) k q n s w wr keys (l.take m) Lv Kv cs2))
    case atStart => exact ⟨0, _, _, _, rfl, Nat.zero_le _, rfl, HI0.out⟩
    case round =>
      obtain ⟨m, Lv, Kv, cs2, rfl, hm, hn, HI⟩ := hrel
      have HN := Lib.hid hn
      clear hn HI0
      by_cases hml : m < l.length
      case neg =>
        obtain rfl : m = l.length := by omega
        obtain ⟨B1, d1, hLf⟩ := own_form HI.out.ownL
        obtain ⟨B2, d2, hKf⟩ := own_form HI.out.ownK
        subst hLf hKf
        obtain ⟨b0, b1, b2, b3, b4, b5⟩ := HI.out.out.cell
        obtain ⟨r0, r1, r2, r3, r4, r5⟩ := HI.out.res.cell
        have f0 := HI.out.res.frozen 0
        have f1 := HI.out.res.frozen 1
        have f2 := HI.out.res.frozen 2
        have f3 := HI.out.res.frozen 3
        have f4 := HI.out.res.frozen 4
        have f5 := HI.out.res.frozen 5
        have HE : Hid (JRep wr (fun b => w.heap.size + 2 ≤ b) [.int .i64 k, .bool q, .int .i64 n, .string s, .slice B1 (l.take l.length).length d1, .slice B2 keys.length d2] (.mk k q n s l keys)) := by have h := HI.out.rep_end; rw [List.take_length] at h ⊢; exact h
        rw [List.take_length] at b4 HE
        go_wp2_with fail
        refine ret_json Tryd.results25 rfl HI.out.res fun W ho hJ => ?_
        exact ⟨_, _, _, _, _, _, rfl, below_only HI.out.bel ho (by omega), HE.out.only ho (by omega) (by omega)⟩
      case pos =>
        obtain ⟨x, hx⟩ : ∃ t, l[m]? = some t := ⟨_, List.getElem?_eq_getElem hml⟩
        obtain ⟨cs, hcs⟩ : ∃ t, css[m]? = some t := ⟨_, List.getElem?_eq_getElem (by have := HC.out; omega)⟩
        obtain ⟨eb, eo, rfl, _, _, hc1⟩ := HL.out.elem hcs
        have hr1 := HR.out m cs x hcs hx
        obtain ⟨x0, x1, x2, x3, x4, x5, rfl⟩ := hr1.six
        obtain ⟨z1, z2, z3, z4, E1, l1, m1, E2, l2, m2, rfl, rfl, rfl, rfl, rfl, rfl⟩ := rep_form hr1
        obtain ⟨y0, y1, y2, y3, y4, y5⟩ := cells6 (hc1.keep HI.out.bel)
        have HRx := Lib.hid (hr1.stays HI.out.bel)
        have HX := Lib.hid hx
        have htl : Hid ((l.take m).length = m) := by show _ = _; rw [List.length_take]; omega
        have hts : Hid (l.take (m + 1) = l.take m ++ [x]) := by show _ = _; rw [List.take_add_one, hx]; rfl
        clear hc1 hr1 hcs hx
        go_wp2_with fail
        have HJV := Lib.hid (JB.new wr (.int .i64 z1) (.bool z2) (.int .i64 z3) (.string z4) (.slice E1 l1 m1) (.slice E2 l2 m2))
        have HI2 := Lib.hid (HI.out.next ((Below.refl _ _).alloc (Nat.le_refl _) (.cells #[.int .i64 z1, .bool z2, .int .i64 z3, .string z4, .slice E1 l1 m1, .slice E2 l2 m2] 25)))
        have HR2 := Lib.hid (HRx.out.stays ((Below.refl _ _).alloc (Nat.le_refl _) (.cells #[.int .i64 z1, .bool z2, .int .i64 z3, .string z4, .slice E1 l1 m1, .slice E2 l2 m2] 25)))
        have hwr : w.heap.size + 2 ≤ wr.heap.size := HI.out.ble
        have hv4 : ¬ wr.heap.size = w.heap.size := by omega
        clear y0 y1 y2 y3 y4 y5 HI HRx
        generalize wr.alloc (.cells #[.int .i64 z1, .bool z2, .int .i64 z3, .string z4, .slice E1 l1 m1, .slice E2 l2 m2] 25) = w2 at HJV HI2 HR2 ⊢
        obtain ⟨y0, y1, y2, y3, y4, y5⟩ := HJV.out.cell
        have b4 := HI2.out.out.cell.2.2.2.2.1
        go_region_law (first | (refine step_append_lies _ (by rfl) _ _ 22 (by rfl) (w.heap.size + 2) 25 i0 _ 6 88 Tryd.underlying22 hinfo hz0 hz1 hz2 rfl (by omega) Lv m cs2.flatten (by rfl) (by have h := World.ownsRow.alloc HI4.out.ownL; rw [htl.out] at h; exact h _) ⟨w4.heap.size, 0, none⟩ 1 1 [.int .i64 t1, .bool t2, .int .i64 t3, .string t4, .slice T1 tl1 tm1, .slice T2 tl2 tm2] (by rfl) (by rfl) (World.news_of_block (cs := #[.int .i64 t1, .bool t2, .int .i64 t3, .string t4, .slice T1 tl1 tm1, .slice T2 tl2 tm2]) (t := 25) (fr := (0, 0)) (heap_alloc_new w4 _)) (by simp [Value.oneCell']) (by omega) (by unfold maxLen; omega) (by omega) (by have := HI4.out.ble; simp; omega) (w4.heap.size + 1) (by simp) ?_; intro gg cap w6 hown6 hgr6 hat hlt; have J6 := HI4.out.out.grown2 hgr6 (HI4.out.neL (by omega)); have q6 := J6.cell.2.2.2.2.1; have f6 := J6.frozen 4; clear J6) | (go_simp; go_at_call 25; refine (IH.out m x HX.out _ _ _ _ _ _ _ _ (HR2.out.drew)).mono ?_; intro e w4 hq; obtain ⟨a, b, c, d, Lx, Kx, rfl, hb4, hr4⟩ := hq; obtain ⟨t1, t2, t3, t4, T1, tl1, tm1, T2, tl2, tm2, rfl, rfl, rfl, rfl, rfl, rfl⟩ := rep_form hr4; have HI4 := Lib.hid (HI2.out.next (below_undrew hb4)); have HR4 := Lib.hid hr4; have hsz4 : w2.heap.size ≤ w4.heap.size := hb4.size; have q4 := HI4.out.out.cell.2.2.2.2.1; have l4 := HI4.out.out.lt; clear hb4 hr4))
        all_goals
          have HX4 : Hid (JRep w4 (fun b => w.heap.size + 2 ≤ b ∧ Lv.ownBlock ≠ some b ∧ Kv.ownBlock ≠ some b) [.int .i64 t1, .bool t2, .int .i64 t3, .string t4, .slice T1 tl1 tm1, .slice T2 tl2 tm2] x) := HR4.out.mono fun b hb1 _ => by
            have e1 := HI2.out.ble
            have e2 : w2.heap.size ≤ b := hb1
            refine ⟨⟨by omega, fun e => ?_, fun e => ?_⟩, rfl⟩
            · have := (World.ownsRow.lt HI2.out.ownL b e).2; omega
            · have := (World.ownsRow.lt HI2.out.ownK b e).2; omega
          have HI6 := Lib.hid (HI4.out.addMember (by omega) (by omega) (by omega) ((Below.refl _ _).alloc (Nat.le_refl _) _) HX4.out rfl (by rw [htl.out]; exact hown6) hgr6 (fun j hj => by rcases hat with h | h <;> injection hj with hj <;> simp only at hj; exact .inl (by rw [← hj]; exact h); exact .inr (by omega)))
          rw [← hts.out] at HI6
          clear hat hown6 hgr6 q4 q6 f6 HI4 HX4 b4
          go_wp2_with fail
          go_roundg (l.length - (m + 1))
          case measure => have := HN.out; omega
          case rel => exact ⟨m + 1, _, _, _, by go_num, by omega, rfl, HI6.out⟩

theorem clone_any (B : Nat) (hB : B ≤ 33554432) {x : J} (hx : Sm B x) : ∀ (ok : Nat → Prop) (w : World) (a b c d e f : Value), JRep w ok [a, b, c, d, e, f] x → Calls Tryd.prog 25 #[.agg #[a, b, c, d, e, f]] w (ClonePost x w) := by
  induction hx with
  | mk hl hk hs hks hn hrec ih =>
    intro ok w a b c d e f h
    exact clone_step B hB _ _ _ _ _ _ hl hk ih ok w a b c d e f h

end Go.Proofs.YtbhnfehpbbibbaaDoor
