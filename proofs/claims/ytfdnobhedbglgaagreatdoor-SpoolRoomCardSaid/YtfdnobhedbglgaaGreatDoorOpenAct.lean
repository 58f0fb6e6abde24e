/- What the argument of chapter 21 reads as: a row of calls. -/
import Derived.Test.YtfdnobhedbglgaaGreatDoorOpenEv
import Derived.Test.YtfdnobhedbglgaaGreatDoorLaw1
namespace Go.Proofs.YtfdnobhedbglgaaGreatDoor
open Go Go.RowKit Go.Shelf Go.ChangeShapes Go.WideShapes
section
variable {H : Type} {enc : TypeId × Value → H} {W : World} {base : Nat} {spare : Nat → Bool} {held : Bool} {fuel : Nat} {cs : List Value} {x : DataW H × List MemPlace}
theorem cellsBool : (Tryz.prog).cellsOf 4 = 1 := by kernel_rfl
theorem cellsAct : (Tryz.prog).cellsOf 41 = 8 := by kernel_rfl
set_option maxRecDepth 100000 in
theorem open_act (h : DataW.trod enc Tryz.prog W base spare held fuel 41 cs = some x) : ∃ a : Ac, cs = a.cells ∧ EvAt W a.e (a.e.val a.A a.c a.B a.d) := by
  obtain ⟨xs, n, _, _, hl, hx, hf⟩ := DataW.trod_struct Tryz.underlying41 h
  rw [cellsAct] at hl
  match cs, hl with
  | [c0, c1, c2, c3, c4, c5, c6, c7], _ =>
    match xs, hx with
    | [x0, x1], _ =>
      have f0 : DataW.trod enc Tryz.prog W base spare held n 4 [c0] = some x0 := by simpa [cellsBool] using hf 0 _ rfl
      have f1 : DataW.trod enc Tryz.prog W base spare held n 39 [c1, c2, c3, c4, c5, c6, c7] = some x1 := by simpa [cellsEv] using hf 1 _ rfl
      obtain ⟨d, e0, -⟩ := DataW.trod_bool Tryz.underlying4 f0
      obtain ⟨e, A, c, B, d', e1, hv⟩ := open_event f1
      simp only [List.cons.injEq, and_true] at e0
      exact ⟨⟨d, e, A, c, B, d'⟩, by rw [e0, e1]; rfl, hv⟩
instance : Inhabited Ac := ⟨⟨false, ⟨0, 0, ⟨#[]⟩, 0, 0, [], []⟩, none, 0, none, 0⟩⟩
set_option maxRecDepth 100000 in
theorem open_acts (h : DataW.trod enc Tryz.prog W base spare held fuel 22 cs = some x) : ∃ (l : List Ac) (A : Option Addr) (c : Nat), cs = [.slice A l.length c] ∧ ActsAt W l A ∧ (l = [] ∨ ∃ es sp, x.1 = .slice es sp ∧ es.length = l.length) := by
  rcases Go.Deep.open_slice Tryz.underlying22 h with ⟨rfl, rfl⟩ | ⟨a, len, cap, m, n, D, Pl, rfl, _, hl, _, hm, rfl, hel⟩
  · exact ⟨[], none, 0, rfl, fun k a ha => by simp at ha, .inl rfl⟩
  have hlm : len ≤ m := by rw [hm]; split <;> omega
  obtain ⟨f, hf⟩ := Go.Deep.choose_lt (α := Ac) (n := len) (p := fun i r => W.cells? base (a.add (i * 8)) 8 = some r.cells ∧ EvAt W r.e (r.e.val r.A r.c r.B r.d)) (fun i hi => by
    obtain ⟨cs', h1, h2⟩ := hel i (by omega)
    rw [cellsAct] at h1
    obtain ⟨s, rfl, hs⟩ := open_act h2
    exact ⟨s, h1, hs⟩)
  refine ⟨(List.range len).map f, some a, cap, by simp, ?_, .inr ⟨_, _, rfl, by simp⟩⟩
  have hrow := row_of_slices Ac.cells 8 (by decide) (fun _ => rfl) a ((List.range len).map f) (fun k hk => by
    rw [List.getElem_map, List.getElem_range]
    exact (hf k (by simpa using hk)).1)
  intro k r hr
  obtain ⟨hk, rfl⟩ := List.getElem?_eq_some_iff.1 hr
  rw [List.length_map, List.length_range] at hk
  obtain ⟨b, o, e, hc⟩ := hrow (by
    have h1 := flat_get Ac.cells 8 (by decide) (fun _ => rfl) ((List.range len).map f) (k * 8)
    rw [show (k * 8) / 8 = k from by omega, show (k * 8) % 8 = 0 from by omega, hr] at h1
    rcases Nat.eq_zero_or_pos (((List.range len).map f).flatMap Ac.cells).length with h2 | h2
    · rw [List.eq_nil_of_length_eq_zero h2] at h1; simp [Ac.cells] at h1
    · exact h2)
  refine ⟨b, o, e, fun j u hu => ?_, ?_⟩
  · rw [Nat.add_assoc]
    refine hc _ u ?_
    have hj : j < 8 := by have := (List.getElem?_eq_some_iff.1 hu).1; simpa [Ac.cells] using this
    rw [flat_get Ac.cells 8 (by decide) (fun _ => rfl), show (k * 8 + j) / 8 = k from by omega, show (k * 8 + j) % 8 = j from by omega, hr]
    exact hu
  · rw [List.getElem_map, List.getElem_range]
    exact (hf k hk).2
end
end Go.Proofs.YtfdnobhedbglgaaGreatDoor
