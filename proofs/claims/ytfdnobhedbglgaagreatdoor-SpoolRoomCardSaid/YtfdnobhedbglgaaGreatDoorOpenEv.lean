/- What an argument reads as: bytes, spans, events. -/
import Derived.Test.YtfdnobhedbglgaaGreatDoorSpool2
import Derived.Deep.Slices
import Derived.ChangeArms
import Derived.ChangeSlices
namespace Go.Proofs.YtfdnobhedbglgaaGreatDoor
open Go Go.RowKit Go.Shelf Go.ChangeShapes Go.WideShapes
theorem flat_get {α β : Type} (f : α → List β) (w : Nat) (hw : 0 < w) (hf : ∀ x, (f x).length = w) (xs : List α) : ∀ j : Nat, (xs.flatMap f)[j]? = (xs[j / w]?).bind fun x => (f x)[j % w]? := by
  induction xs with
  | nil => intro j; simp
  | cons x l ih =>
    intro j
    rw [List.flatMap_cons]
    by_cases h : j < w
    · rw [List.getElem?_append_left (by rw [hf]; exact h), Nat.div_eq_of_lt h, Nat.mod_eq_of_lt h]; rfl
    · rw [List.getElem?_append_right (by rw [hf]; omega), hf, ih]
      have h1 : j / w = (j - w) / w + 1 := by rw [Nat.div_eq_sub_div hw (by omega)]
      have h2 : j % w = (j - w) % w := by rw [Nat.mod_eq_sub_mod (by omega)]
      rw [h1, h2]; rfl
theorem row_of_slices {α : Type} {W : World} {base : Nat} (f : α → List Value) (w : Nat) (hw : 0 < w) (hf : ∀ x, (f x).length = w) (a : Addr) (xs : List α) (h : ∀ (k : Nat) (hk : k < xs.length), W.cells? base (a.add (k * w)) w = some (f xs[k])) : RowAt W (some a) (xs.flatMap f) := by
  intro h0
  have hpos : 0 < xs.length := by
    rcases xs with _ | ⟨x, l⟩
    · simp at h0
    · simp
  obtain ⟨b, o, s⟩ := a
  have hs : s = none := by
    obtain ⟨_, _, hat⟩ := World.cells?_some (h 0 hpos)
    have h1 := hat 0 hw
    rw [List.getElem?_eq_getElem (by rw [hf]; exact hw), Go.Deep.add_add, Nat.zero_mul] at h1
    have := World.cell?_spot h1
    simpa [Addr.add] using this
  subst hs
  refine ⟨b, o, rfl, fun j u hu => ?_⟩
  rw [flat_get f w hw hf] at hu
  obtain ⟨x, hx, hu⟩ := Option.bind_eq_some_iff.1 hu
  obtain ⟨hk, rfl⟩ := List.getElem?_eq_some_iff.1 hx
  obtain ⟨_, _, hat⟩ := World.cells?_some (h _ hk)
  have h1 := hat (j % w) (Nat.mod_lt _ hw)
  rw [hu, Go.Deep.add_add, add_plain, Nat.mul_comm, Nat.div_add_mod] at h1
  exact h1
section
variable {H : Type} {enc : TypeId × Value → H} {W : World} {base : Nat} {spare : Nat → Bool} {held : Bool} {fuel : Nat} {cs : List Value} {x : DataW H × List MemPlace}
theorem cellsInt : (Tryz.prog).cellsOf 3 = 1 := by kernel_rfl
theorem cellsStr : (Tryz.prog).cellsOf 9 = 1 := by kernel_rfl
theorem cellsU8 : (Tryz.prog).cellsOf 5 = 1 := by kernel_rfl
theorem cellsDot : (Tryz.prog).cellsOf 33 = 2 := by kernel_rfl
theorem cellsSpan : (Tryz.prog).cellsOf 95 = 3 := by kernel_rfl
theorem cellsEff : (Tryz.prog).cellsOf 36 = 3 := by kernel_rfl
theorem cellsEv : (Tryz.prog).cellsOf 39 = 7 := by kernel_rfl
theorem cellsBy : (Tryz.prog).cellsOf 34 = 1 := by kernel_rfl
theorem cellsSp : (Tryz.prog).cellsOf 37 = 1 := by kernel_rfl
set_option maxRecDepth 100000 in
theorem open_bytes (h : DataW.trod enc Tryz.prog W base spare held fuel 34 cs = some x) : ∃ (v : Value) (xs : List UInt8), cs = [v] ∧ ByS W v xs := by
  rcases open_ints Tryz.underlying34 Tryz.underlying5 cellsU8 h with ⟨rfl, _⟩ | ⟨a, len, cap, zs, rfl, _, hl, _, hz, _, hcell, hwf⟩
  · exact ⟨_, [], rfl, none, 0, rfl, Nat.le_refl _, fun _ => rfl, fun h => by simp [byCells] at h⟩
  have hlen : len ≤ zs.length := by rw [hz]; split <;> omega
  have hb : ∀ (i : Nat), i < zs.length → ((UInt8.ofNat (zs.getD i 0).toNat).toNat : Int) = zs.getD i 0 := fun i hi => by
    have hm : zs.getD i 0 ∈ zs := by rw [List.getD_eq_getElem?_getD, List.getElem?_eq_getElem hi]; exact List.getElem_mem _
    have := hwf _ hm
    have h2 : 0 ≤ zs.getD i 0 ∧ zs.getD i 0 ≤ 255 := by simpa [Lit.wf, IntKind.min, IntKind.max, IntKind.signed, IntKind.bits] using this
    rw [UInt8.toNat_ofNat', Nat.mod_eq_of_lt (by omega)]
    omega
  refine ⟨_, (List.range len).map fun i => UInt8.ofNat (zs.getD i 0).toNat, rfl, some a, cap, by simp, by simpa using hl, by simp, fun h0 => ?_⟩
  simp only [byCells, List.map_map, List.length_map, List.length_range] at h0
  obtain ⟨b, o, s⟩ := a
  have h1 := hcell 0 (by omega)
  have hs : s = none := by simpa [Addr.add] using World.cell?_spot h1
  subst hs
  refine ⟨b, o, rfl, fun j u hu => ?_⟩
  obtain ⟨hj, rfl⟩ := List.getElem?_eq_some_iff.1 hu
  simp only [byCells, List.map_map, List.length_map, List.length_range] at hj
  have h2 := hcell j (by omega)
  rw [add_plain] at h2
  rw [h2]
  simp only [byCells, List.map_map, List.getElem_map, List.getElem_range, Function.comp]
  rw [hb j (by omega)]
set_option maxRecDepth 100000 in
theorem open_span (h : DataW.trod enc Tryz.prog W base spare held fuel 95 cs = some x) : ∃ s : Sp, cs = [.int .i64 s.n, .int .i64 s.f, .int .i64 s.t] := by
  obtain ⟨xs, n, _, _, hl, hx, hf⟩ := DataW.trod_struct Tryz.underlying95 h
  rw [cellsSpan] at hl
  match cs, hl with
  | [c0, c1, c2], _ =>
    match xs, hx with
    | [x0, x1, x2], _ =>
      have f0 : DataW.trod enc Tryz.prog W base spare held n 3 [c0] = some x0 := by simpa [cellsInt] using hf 0 _ rfl
      have f1 : DataW.trod enc Tryz.prog W base spare held n 3 [c1] = some x1 := by simpa [cellsInt] using hf 1 _ rfl
      have f2 : DataW.trod enc Tryz.prog W base spare held n 3 [c2] = some x2 := by simpa [cellsInt] using hf 2 _ rfl
      obtain ⟨a, e0, -⟩ := DataW.trod_int Tryz.underlying3 f0
      obtain ⟨b, e1, -⟩ := DataW.trod_int Tryz.underlying3 f1
      obtain ⟨c, e2, -⟩ := DataW.trod_int Tryz.underlying3 f2
      simp only [List.cons.injEq, and_true] at e0 e1 e2
      exact ⟨⟨a, b, c⟩, by rw [e0, e1, e2]⟩
instance : Inhabited Sp := ⟨zSp⟩
set_option maxRecDepth 100000 in
theorem open_spans (h : DataW.trod enc Tryz.prog W base spare held fuel 37 cs = some x) : ∃ (v : Value) (xs : List Sp), cs = [v] ∧ SpS W v xs := by
  rcases Go.Deep.open_slice Tryz.underlying37 h with ⟨rfl, _⟩ | ⟨a, len, cap, m, n, D, Pl, rfl, _, hl, _, hm, _, hel⟩
  · exact ⟨_, [], rfl, none, 0, rfl, Nat.le_refl _, fun _ => rfl, fun h => by simp [spCells] at h⟩
  have hlm : len ≤ m := by rw [hm]; split <;> omega
  obtain ⟨f, hf⟩ := Go.Deep.choose_lt (α := Sp) (n := len) (p := fun i s => W.cells? base (a.add (i * 3)) 3 = some [.int .i64 s.n, .int .i64 s.f, .int .i64 s.t]) (fun i hi => by
    obtain ⟨cs', h1, h2⟩ := hel i (by omega)
    rw [cellsSpan] at h1
    obtain ⟨s, rfl⟩ := open_span h2
    exact ⟨s, h1⟩)
  refine ⟨_, (List.range len).map f, rfl, some a, cap, by simp, by simpa using hl, by simp, ?_⟩
  exact row_of_slices (fun s : Sp => [.int .i64 s.n, .int .i64 s.f, .int .i64 s.t]) 3 (by decide) (fun _ => rfl) a _ (fun k hk => by
    rw [List.getElem_map, List.getElem_range]
    exact hf k (by simpa using hk))
set_option maxRecDepth 100000 in
theorem open_dot (h : DataW.trod enc Tryz.prog W base spare held fuel 33 cs = some x) : ∃ n s : Int, cs = [.int .i64 n, .int .i64 s] := by
  obtain ⟨xs, n, _, _, hl, hx, hf⟩ := DataW.trod_struct Tryz.underlying33 h
  rw [cellsDot] at hl
  match cs, hl with
  | [c0, c1], _ =>
    match xs, hx with
    | [x0, x1], _ =>
      have f0 : DataW.trod enc Tryz.prog W base spare held n 3 [c0] = some x0 := by simpa [cellsInt] using hf 0 _ rfl
      have f1 : DataW.trod enc Tryz.prog W base spare held n 3 [c1] = some x1 := by simpa [cellsInt] using hf 1 _ rfl
      obtain ⟨a, e0, -⟩ := DataW.trod_int Tryz.underlying3 f0
      obtain ⟨b, e1, -⟩ := DataW.trod_int Tryz.underlying3 f1
      simp only [List.cons.injEq, and_true] at e0 e1
      exact ⟨a, b, by rw [e0, e1]⟩
set_option maxRecDepth 100000 in
theorem open_effect (h : DataW.trod enc Tryz.prog W base spare held fuel 36 cs = some x) : ∃ (k m : Int) (v : Value) (xs : List UInt8), cs = [.int .i64 k, .int .i64 m, v] ∧ ByS W v xs := by
  obtain ⟨xs, n, _, _, hl, hx, hf⟩ := DataW.trod_struct Tryz.underlying36 h
  rw [cellsEff] at hl
  match cs, hl with
  | [c0, c1, c2], _ =>
    match xs, hx with
    | [x0, x1, x2], _ =>
      have f0 : DataW.trod enc Tryz.prog W base spare held n 3 [c0] = some x0 := by simpa [cellsInt] using hf 0 _ rfl
      have f1 : DataW.trod enc Tryz.prog W base spare held n 3 [c1] = some x1 := by simpa [cellsInt] using hf 1 _ rfl
      have f2 : DataW.trod enc Tryz.prog W base spare held n 34 [c2] = some x2 := by simpa [cellsBy] using hf 2 _ rfl
      obtain ⟨a, e0, -⟩ := DataW.trod_int Tryz.underlying3 f0
      obtain ⟨b, e1, -⟩ := DataW.trod_int Tryz.underlying3 f1
      obtain ⟨v, ys, e2, hv⟩ := open_bytes f2
      simp only [List.cons.injEq, and_true] at e0 e1 e2
      exact ⟨a, b, v, ys, by rw [e0, e1, e2], hv⟩
set_option maxRecDepth 100000 in
theorem open_event (h : DataW.trod enc Tryz.prog W base spare held fuel 39 cs = some x) : ∃ (e : Ev) (A : Option Addr) (c : Nat) (B : Option Addr) (d : Nat),
    cs = [.int .i64 e.node, .int .i64 e.seq, .string e.path, .int .i64 e.kind, .int .i64 e.mode, .slice A e.bytes.length c, .slice B e.past.length d] ∧ EvAt W e (e.val A c B d) := by
  obtain ⟨xs, n, _, _, hl, hx, hf⟩ := DataW.trod_struct Tryz.underlying39 h
  rw [cellsEv] at hl
  match cs, hl with
  | [c0, c1, c2, c3, c4, c5, c6], _ =>
    match xs, hx with
    | [x0, x1, x2, x3], _ =>
      have f0 : DataW.trod enc Tryz.prog W base spare held n 33 [c0, c1] = some x0 := by simpa [cellsDot] using hf 0 _ rfl
      have f1 : DataW.trod enc Tryz.prog W base spare held n 9 [c2] = some x1 := by simpa [cellsStr] using hf 1 _ rfl
      have f2 : DataW.trod enc Tryz.prog W base spare held n 36 [c3, c4, c5] = some x2 := by simpa [cellsEff] using hf 2 _ rfl
      have f3 : DataW.trod enc Tryz.prog W base spare held n 37 [c6] = some x3 := by simpa [cellsSp] using hf 3 _ rfl
      obtain ⟨nd, sq, e0⟩ := open_dot f0
      obtain ⟨p, e1, -⟩ := DataW.trod_string Tryz.underlying9 f1
      obtain ⟨k, m, v, ys, e2, hv⟩ := open_effect f2
      obtain ⟨u, ps, e3, hu⟩ := open_spans f3
      simp only [List.cons.injEq, and_true] at e0 e1 e2 e3
      obtain ⟨A, c, rfl, hv'⟩ := id hv
      obtain ⟨B, d, rfl, hu'⟩ := id hu
      exact ⟨⟨nd, sq, p, k, m, ys, ps⟩, A, c, B, d, by rw [e0.1, e0.2, e1, e2.1, e2.2.1, e2.2.2, e3], A, c, B, d, rfl, hv, hu⟩
end
end Go.Proofs.YtfdnobhedbglgaaGreatDoor
