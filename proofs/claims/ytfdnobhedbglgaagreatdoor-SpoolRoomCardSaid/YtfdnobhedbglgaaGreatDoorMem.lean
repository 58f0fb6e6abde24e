import Derived.Test.YtfdnobhedbglgaaGreatDoorBase
import Derived.Test.YtfdnobhedbglgaaGreatDoorProg
import Derived.OwnWalk
import Derived.WalkSpells
import Derived.Laws.AppendOwn
import Derived.Laws.AppendOwnNone
import Derived.Laws.OwnMore
import Derived.Maps.AppendAt
namespace Go.Proofs.YtfdnobhedbglgaaGreatDoor
open Go Go.RowKit Go.Shelf
/-- The cells of a row that is read. -/
def RowAt (W : World) (A : Option Addr) (cs : List Value) : Prop :=
  0 < cs.length → ∃ b o, A = some ⟨b, o, none⟩ ∧ ∀ j u, cs[j]? = some u → W.cell? ⟨b, o + j, none⟩ = some u
theorem RowAt.below {W W' : World} {A : Option Addr} {cs : List Value} (h : RowAt W A cs) (hb : Below W.heap.size W W') : RowAt W' A cs := by
  intro h0
  obtain ⟨b, o, e, hc⟩ := h h0
  have hlt := cell_lt (hc 0 cs[0] (List.getElem?_eq_getElem h0))
  exact ⟨b, o, e, fun j u hu => ((bcell hb).1 _ _ hlt).trans (hc j u hu)⟩
theorem add_plain (g o j : Nat) : (⟨g, o, none⟩ : Addr).add j = ⟨g, o + j, none⟩ := by unfold Addr.add; split <;> simp_all
theorem RowAt.adds {W : World} {ad : Addr} {cs : List Value} (h : RowAt W (some ad) cs) : ∀ j u, cs[j]? = some u → W.cell? (ad.add j) = some u := by
  intro j u hu
  obtain ⟨b, o, e, hc⟩ := h (by have := (List.getElem?_eq_some_iff.1 hu).1; omega)
  cases e
  rw [add_plain]
  exact hc j u hu
def spCells (xs : List Sp) : List Value := xs.flatMap fun x => [.int .i64 x.n, .int .i64 x.f, .int .i64 x.t]
def byCells (xs : List UInt8) : List Value := xs.map fun b => .int .u8 (b.toNat : Int)
theorem spCells_length (xs : List Sp) : (spCells xs).length = xs.length * 3 := by
  induction xs with
  | nil => rfl
  | cons x l ih => simp [spCells] at ih ⊢; omega
theorem byCells_length (xs : List UInt8) : (byCells xs).length = xs.length := by simp [byCells]
theorem spCells_append (xs ys : List Sp) : spCells (xs ++ ys) = spCells xs ++ spCells ys := by simp [spCells]
theorem byCells_append (xs ys : List UInt8) : byCells (xs ++ ys) = byCells xs ++ byCells ys := by simp [byCells]
theorem spCells_one (xs : List Sp) : ∀ u ∈ spCells xs, u.oneCell' = true := by
  intro u hu
  simp only [spCells, List.mem_flatMap] at hu
  obtain ⟨x, _, hu⟩ := hu
  simp at hu
  rcases hu with rfl | rfl | rfl <;> rfl
theorem byCells_one (xs : List UInt8) : ∀ u ∈ byCells xs, u.oneCell' = true := by
  intro u hu
  simp only [byCells, List.mem_map] at hu
  obtain ⟨x, _, rfl⟩ := hu
  rfl
theorem spCells_get (xs : List Sp) : ∀ k, k < xs.length → (spCells xs)[k * 3]? = some (.int .i64 (xs.getD k zSp).n) ∧ (spCells xs)[k * 3 + 1]? = some (.int .i64 (xs.getD k zSp).f) ∧ (spCells xs)[k * 3 + 2]? = some (.int .i64 (xs.getD k zSp).t) := by
  induction xs with
  | nil => intro k hk; simp at hk
  | cons x l ih =>
    intro k hk
    cases k with
    | zero => simp [spCells]
    | succ k =>
      have := ih k (by simpa using hk)
      have e : (k + 1) * 3 = k * 3 + 3 := by omega
      simp only [spCells, List.flatMap_cons] at this ⊢
      rw [e, show k * 3 + 3 + 1 = (k * 3 + 1) + 3 from by omega, show k * 3 + 3 + 2 = (k * 3 + 2) + 3 from by omega]
      simpa using this
theorem spAt_of_row {W : World} {A : Option Addr} {xs : List Sp} (h : RowAt W A (spCells xs)) : SpAt W A xs := by
  intro h0
  obtain ⟨b, o, e, hc⟩ := h (by rw [spCells_length]; omega)
  exact ⟨b, o, e, fun k hk => by
    obtain ⟨h1, h2, h3⟩ := spCells_get xs k hk
    exact ⟨hc _ _ h1, hc _ _ h2, hc _ _ h3⟩⟩
/-- A slice of bytes, of spans, as an argument. -/
def ByS (W : World) (v : Value) (xs : List UInt8) : Prop := ∃ A c, v = .slice A xs.length c ∧ xs.length ≤ c ∧ (A = none → c = 0) ∧ RowAt W A (byCells xs)
def SpS (W : World) (v : Value) (xs : List Sp) : Prop := ∃ A c, v = .slice A xs.length c ∧ xs.length ≤ c ∧ (A = none → c = 0) ∧ RowAt W A (spCells xs)
theorem ByS.below {W W' : World} {v : Value} {xs : List UInt8} (h : ByS W v xs) (hb : Below W.heap.size W W') : ByS W' v xs := by
  obtain ⟨A, c, e, h1, h2, h3⟩ := h
  exact ⟨A, c, e, h1, h2, h3.below hb⟩
theorem SpS.below {W W' : World} {v : Value} {xs : List Sp} (h : SpS W v xs) (hb : Below W.heap.size W W') : SpS W' v xs := by
  obtain ⟨A, c, e, h1, h2, h3⟩ := h
  exact ⟨A, c, e, h1, h2, h3.below hb⟩
theorem own_row {w : World} {base : Nat} {e : TypeId} {size n : Nat} {v : Value} {xs : List Value} (h : w.ownsRow base e size v n xs) :
    ∃ A c, v = .slice A n c ∧ n ≤ c ∧ (A = none → c = 0) ∧ RowAt w A xs := by
  have hl := h.1
  rcases h.2 with ⟨rfl, rfl⟩ | ⟨g, cap, cur, rfl, hb, hg, h1, h2, h3, h4⟩
  · refine ⟨none, 0, rfl, Nat.le_refl _, fun _ => rfl, fun h0 => ?_⟩
    rw [hl] at h0; omega
  · exact ⟨_, cap, rfl, h1, by simp, fun _ => ⟨g, 0, rfl, fun j u hu => by have := h.cells (g := g) rfl j u hu; rwa [add_plain] at this⟩⟩
theorem own_base' {w : World} {base : Nat} {e : TypeId} {size n : Nat} {v : Value} {xs : List Value} (h : w.ownsRow base e size v n xs) : ∀ k, v.ownBlock = some k → base ≤ k := by
  intro k hk
  rcases h.2 with ⟨rfl, _⟩ | ⟨g, cap, cur, rfl, hb, _⟩
  · simp [Value.ownBlock] at hk
  · have : g = k := by simpa [Value.ownBlock] using hk
    omega
theorem own_lt' {w : World} {base : Nat} {e : TypeId} {size n : Nat} {v : Value} {xs : List Value} (h : w.ownsRow base e size v n xs) : ∀ k, v.ownBlock = some k → k < w.heap.size := by
  intro k hk
  rcases h.2 with ⟨rfl, _⟩ | ⟨g, cap, cur, rfl, hb, hh, _⟩
  · simp [Value.ownBlock] at hk
  · have : g = k := by simpa [Value.ownBlock] using hk
    subst this
    exact (Array.getElem?_eq_some_iff.1 hh).1
theorem own_by {w : World} {base : Nat} {e : TypeId} {v : Value} {xs : List UInt8} (h : w.ownsRow base e 1 v xs.length (byCells xs)) : ByS w v xs := own_row h
theorem own_sp {w : World} {base : Nat} {e : TypeId} {v : Value} {xs : List Sp} (h : w.ownsRow base e 3 v xs.length (spCells xs)) : SpS w v xs := own_row h
theorem eql_slice_nil (w : World) {T E : TypeId} (a : Option Addr) (n c : Nat) (h : (Tryz.prog).underlying T = some (.slice E)) : (binOp .eql T (.slice a n c) (.slice none 0 0)).run Tryz.prog w = .ok (.bool a.isNone) w := by
  simp only [binOp]
  simp [Op.equal, Op.maxDepth, Lib.run_equalIn_slice_nil w 9999 T E a n c 0 0 h]
theorem blk_set {W : World} {g : Nat} {cs : Array Value} {t : TypeId} {fr : Nat × Nat} (h : W.heap[g]? = some (.cells cs t fr)) (j : Nat) (u : Value) : (W.setCell ⟨g, j, none⟩ u).heap[g]? = some (.cells (cs.setIfInBounds j u) t fr) := by
  obtain ⟨hlt, hk⟩ := Array.getElem?_eq_some_iff.1 h
  show (W.heap.modify g _)[g]? = _
  rw [Array.getElem?_eq_getElem (by rw [Array.size_modify]; exact hlt), Array.getElem_modify_self, hk]
  rfl
theorem grown_set (W : World) (g j : Nat) (v : Value) : W.grownBy (W.setCell ⟨g, j, none⟩ v) (some g) :=
  ⟨rfl, rfl, rfl, by simp, fun k _ hk => Below.heap_setCell _ _ _ k (fun e => hk (by rw [e]))⟩
theorem blk_cell {W : World} {g : Nat} {cs : Array Value} {t : TypeId} {fr : Nat × Nat} (h : W.heap[g]? = some (.cells cs t fr)) (j : Nat) : W.cell? ⟨g, j, none⟩ = cs[j]? := by simp [World.cell?, h]
theorem blk_free {W : World} {g : Nat} {cs : Array Value} {t : TypeId} (h : W.heap[g]? = some (.cells cs t (0, 0))) (j : Nat) : W.frozen? ⟨g, j, none⟩ = false := by simp [World.frozen?, h]
/-- A block of another type is no owned row's. -/
theorem blk_ne {W : World} {g : Nat} {cs : Array Value} {t e : TypeId} {fr : Nat × Nat} (h : W.heap[g]? = some (.cells cs t fr)) {base size n : Nat} {v : Value} {xs : List Value} (ho : W.ownsRow base e size v n xs) (hte : t ≠ e) : v.ownBlock ≠ some g := by
  intro hk
  rcases ho.2 with ⟨rfl, _⟩ | ⟨k, cap, cur, rfl, _, hh, _⟩
  · simp [Value.ownBlock] at hk
  · have e1 : k = g := by simpa [Value.ownBlock] using hk
    subst e1
    rw [h] at hh
    simp at hh
    exact hte hh.2.1
/-- All but block g and one row (and what is new) lies as it lay. -/
def KeepX (g : Nat) (row : Option Nat) (w W : World) : Prop := w.heap.size ≤ W.heap.size ∧ ∀ b, b < w.heap.size → b ≠ g → some b ≠ row → W.heap[b]? = w.heap[b]?
theorem KeepX.refl (g : Nat) (row : Option Nat) (w : World) : KeepX g row w w := ⟨Nat.le_refl _, fun _ _ _ _ => rfl⟩
theorem KeepX.below {g : Nat} {row : Option Nat} {w W W' : World} (h : KeepX g row w W) (hb : Below W.heap.size W W') : KeepX g row w W' := ⟨Nat.le_trans h.1 hb.size, fun b h1 h2 h3 => (hb.block b (Nat.lt_of_lt_of_le h1 h.1)).trans (h.2 b h1 h2 h3)⟩
theorem KeepX.grown {g : Nat} {row r2 : Option Nat} {w W W' : World} (h : KeepX g row w W) (hg : W.grownBy W' r2) (hr : ∀ b, r2 = some b → b < w.heap.size → b = g ∨ some b = row) : KeepX g row w W' := by
  refine ⟨Nat.le_trans h.1 hg.size, fun b h1 h2 h3 => ?_⟩
  refine (hg.block b (Nat.lt_of_lt_of_le h1 h.1) ?_).trans (h.2 b h1 h2 h3)
  intro e
  rcases hr b e.symm h1 with h4 | h4
  · exact h2 h4
  · exact h3 h4
theorem infoB : (Tryz.prog.info? 5).map (fun i => (i.zero, i.size, i.bytes)) = some (some (.int .u8 0), 1, 1) := by kernel_rfl
theorem infoS : (Tryz.prog.info? 95).map (fun i => (i.zero, i.size, i.bytes)) = some (some (.agg #[.int .i64 0, .int .i64 0, .int .i64 0]), 3, 24) := by kernel_rfl
set_option maxHeartbeats 2000000 in
set_option maxRecDepth 100000 in
theorem CopyBytes (v : Value) (xs : List UInt8) (w : World) (hx : ByS w v xs) (hn : xs.length ≤ 140737488355328) :
    Calls Tryz.prog 51 #[v] w fun e w' => (∃ v', e = .returned v' ∧ w'.ownsRow w.heap.size 5 1 v' xs.length (byCells xs)) ∧ Below w.heap.size w w' := by
  obtain ⟨A, c, rfl, hc, hA, hr⟩ := hx
  obtain ⟨i0, hi, hz0, hz1, hz2⟩ := info_parts infoB
  have hl := byCells_length xs
  cases A with
  | none =>
    obtain rfl := hA rfl
    obtain rfl : xs = [] := List.eq_nil_of_length_eq_zero (by omega)
    have hown := World.ownsRow_lit (base := w.heap.size) (e := 5) (size := 1) w #[] 0 (Nat.le_refl _) (by simp [maxLen]) (by simp)
    go_enter Tryz.func51, Tryz.ntmps51
    go_wp2_with (refine wpList_append_own_none rfl (.tmp 3) (.tmp 4) 34 rfl w.heap.size 5 i0 1 Tryz.underlying34 hi _ _ _ rfl hown rfl ?_)
    go_ret
    exact ⟨⟨_, rfl, hown⟩, (Below.refl _ _).alloc (Nat.le_refl _) _⟩
  | some ad =>
    have hown := World.ownsRow_lit (base := w.heap.size) (e := 5) (size := 1) w #[] 0 (Nat.le_refl _) (by simp [maxLen]) (by simp)
    have hb0 := (Below.refl w.heap.size w).alloc (Nat.le_refl _) (.cells #[] 5)
    have hnews := (hr.below hb0).adds
    go_enter Tryz.func51, Tryz.ntmps51
    go_wp2_with (refine wpList_append_own _ rfl (.tmp 3) (.tmp 4) 34 rfl w.heap.size 5 i0 (.int .u8 0) 1 1 Tryz.underlying34 hi hz0 hz1 hz2 rfl (by decide) _ 0 _ rfl hown ad xs.length c (byCells xs) rfl ?_ hnews (byCells_one _) ?_ ?_ (by simp) ?_; (rw [hl]; simp); (simp [maxLen]; omega); (simp; omega); intro v' w1 hown' hg _)
    go_ret
    exact ⟨⟨_, rfl, by simpa using hown'⟩, hb0.grown hg (by simp) (fun k e => by cases e; simp)⟩
set_option maxHeartbeats 2000000 in
set_option maxRecDepth 100000 in
theorem CopySpans (v : Value) (xs : List Sp) (w : World) (hx : SpS w v xs) (hn : xs.length ≤ 5864062014805) :
    Calls Tryz.prog 34 #[v] w fun e w' => (∃ v', e = .returned v' ∧ w'.ownsRow w.heap.size 95 3 v' xs.length (spCells xs)) ∧ Below w.heap.size w w' := by
  obtain ⟨A, c, rfl, hc, hA, hr⟩ := hx
  obtain ⟨i0, hi, hz0, hz1, hz2⟩ := info_parts infoS
  have hl := spCells_length xs
  cases A with
  | none =>
    obtain rfl := hA rfl
    obtain rfl : xs = [] := List.eq_nil_of_length_eq_zero (by omega)
    have hown := World.ownsRow_lit (base := w.heap.size) (e := 95) (size := 3) w #[] 0 (Nat.le_refl _) (by simp [maxLen]) (by simp)
    go_enter Tryz.func34, Tryz.ntmps34
    go_wp2_with (refine wpList_append_own_none rfl (.tmp 3) (.tmp 4) 37 rfl w.heap.size 95 i0 3 Tryz.underlying37 hi _ _ _ rfl hown rfl ?_)
    go_ret
    exact ⟨⟨_, rfl, hown⟩, (Below.refl _ _).alloc (Nat.le_refl _) _⟩
  | some ad =>
    have hown := World.ownsRow_lit (base := w.heap.size) (e := 95) (size := 3) w #[] 0 (Nat.le_refl _) (by simp [maxLen]) (by simp)
    have hb0 := (Below.refl w.heap.size w).alloc (Nat.le_refl _) (.cells #[] 95)
    have hnews := (hr.below hb0).adds
    go_enter Tryz.func34, Tryz.ntmps34
    go_wp2_with (refine wpList_append_own _ rfl (.tmp 3) (.tmp 4) 37 rfl w.heap.size 95 i0 (.agg #[.int .i64 0, .int .i64 0, .int .i64 0]) 3 24 Tryz.underlying37 hi hz0 hz1 hz2 rfl (by decide) _ 0 _ rfl hown ad xs.length c (spCells xs) rfl ?_ hnews (spCells_one _) ?_ ?_ (by simp) ?_; (rw [hl]); (simp [maxLen]; omega); (simp; omega); intro v' w1 hown' hg _)
    go_ret
    exact ⟨⟨_, rfl, by simpa using hown'⟩, hb0.grown hg (by simp) (fun k e => by cases e; simp)⟩
set_option maxHeartbeats 2000000 in
set_option maxRecDepth 100000 in
theorem Clone_bytes (v : Value) (xs : List UInt8) (w : World) (hx : ByS w v xs) (hn : xs.length ≤ 140737488355328) :
    Calls Tryz.prog 57 #[v] w fun e w' => (∃ v', e = .returned v' ∧ w'.ownsRow w.heap.size 5 1 v' xs.length (byCells xs)) ∧ Below w.heap.size w w' := by
  obtain ⟨A, c, rfl, hc, hA, hr⟩ := hx
  obtain ⟨i0, hi, hz0, hz1, hz2⟩ := info_parts infoB
  have hl := byCells_length xs
  cases A with
  | none =>
    obtain rfl := hA rfl
    obtain rfl : xs = [] := List.eq_nil_of_length_eq_zero (by omega)
    have he := eql_slice_nil w none 0 0 Tryz.underlying34
    go_enter Tryz.func57, Tryz.ntmps57
    go_wp2
    go_ret
    exact ⟨⟨_, rfl, World.ownsRow_nil _ _ _ _⟩, Below.refl _ _⟩
  | some ad =>
    have he := eql_slice_nil w (some ad) xs.length c Tryz.underlying34
    have hown := World.ownsRow_lit (base := w.heap.size) (e := 5) (size := 1) w #[] 0 (Nat.le_refl _) (by simp [maxLen]) (by simp)
    have hb0 := (Below.refl w.heap.size w).alloc (Nat.le_refl _) (.cells #[] 5)
    have hnews := (hr.below hb0).adds
    go_enter Tryz.func57, Tryz.ntmps57
    go_wp2_with (refine wpList_append_own _ rfl (.tmp 5) (.tmp 6) 34 rfl w.heap.size 5 i0 (.int .u8 0) 1 1 Tryz.underlying34 hi hz0 hz1 hz2 rfl (by decide) _ 0 _ rfl hown ad xs.length c (byCells xs) rfl ?_ hnews (byCells_one _) ?_ ?_ (by simp) ?_; (rw [hl]; simp); (simp [maxLen]; omega); (simp; omega); intro v' w1 hown' hg _)
    go_ret
    exact ⟨⟨_, rfl, by simpa using hown'⟩, hb0.grown hg (by simp) (fun k e => by cases e; simp)⟩
set_option maxHeartbeats 2000000 in
set_option maxRecDepth 100000 in
theorem Clone_spans (v : Value) (xs : List Sp) (w : World) (hx : SpS w v xs) (hn : xs.length ≤ 5864062014805) :
    Calls Tryz.prog 58 #[v] w fun e w' => (∃ v', e = .returned v' ∧ w'.ownsRow w.heap.size 95 3 v' xs.length (spCells xs)) ∧ Below w.heap.size w w' := by
  obtain ⟨A, c, rfl, hc, hA, hr⟩ := hx
  obtain ⟨i0, hi, hz0, hz1, hz2⟩ := info_parts infoS
  have hl := spCells_length xs
  cases A with
  | none =>
    obtain rfl := hA rfl
    obtain rfl : xs = [] := List.eq_nil_of_length_eq_zero (by omega)
    have he := eql_slice_nil w none 0 0 Tryz.underlying37
    go_enter Tryz.func58, Tryz.ntmps58
    go_wp2
    go_ret
    exact ⟨⟨_, rfl, World.ownsRow_nil _ _ _ _⟩, Below.refl _ _⟩
  | some ad =>
    have he := eql_slice_nil w (some ad) xs.length c Tryz.underlying37
    have hown := World.ownsRow_lit (base := w.heap.size) (e := 95) (size := 3) w #[] 0 (Nat.le_refl _) (by simp [maxLen]) (by simp)
    have hb0 := (Below.refl w.heap.size w).alloc (Nat.le_refl _) (.cells #[] 95)
    have hnews := (hr.below hb0).adds
    go_enter Tryz.func58, Tryz.ntmps58
    go_wp2_with (refine wpList_append_own _ rfl (.tmp 5) (.tmp 6) 37 rfl w.heap.size 95 i0 (.agg #[.int .i64 0, .int .i64 0, .int .i64 0]) 3 24 Tryz.underlying37 hi hz0 hz1 hz2 rfl (by decide) _ 0 _ rfl hown ad xs.length c (spCells xs) rfl ?_ hnews (spCells_one _) ?_ ?_ (by simp) ?_; (rw [hl]); (simp [maxLen]; omega); (simp; omega); intro v' w1 hown' hg _)
    go_ret
    exact ⟨⟨_, rfl, by simpa using hown'⟩, hb0.grown hg (by simp) (fun k e => by cases e; simp)⟩
set_option maxHeartbeats 2000000 in
set_option maxRecDepth 100000 in
theorem bytes_Clone (v : Value) (xs : List UInt8) (w : World) (hx : ByS w v xs) (hn : xs.length ≤ 140737488355328) :
    Calls Tryz.prog 94 #[v] w fun e w' => (∃ v', e = .returned v' ∧ w'.ownsRow w.heap.size 5 1 v' xs.length (byCells xs)) ∧ Below w.heap.size w w' := by
  obtain ⟨A, c, rfl, hc, hA, hr⟩ := hx
  obtain ⟨i0, hi, hz0, hz1, hz2⟩ := info_parts infoB
  have hl := byCells_length xs
  cases A with
  | none =>
    obtain rfl := hA rfl
    obtain rfl : xs = [] := List.eq_nil_of_length_eq_zero (by omega)
    have he := eql_slice_nil w none 0 0 Tryz.underlying34
    go_enter Tryz.func94, Tryz.ntmps94
    go_wp2
    go_ret
    exact ⟨⟨_, rfl, World.ownsRow_nil _ _ _ _⟩, Below.refl _ _⟩
  | some ad =>
    have he := eql_slice_nil w (some ad) xs.length c Tryz.underlying34
    have hown := World.ownsRow_lit (base := w.heap.size) (e := 5) (size := 1) w #[] 0 (Nat.le_refl _) (by simp [maxLen]) (by simp)
    have hb0 := (Below.refl w.heap.size w).alloc (Nat.le_refl _) (.cells #[] 5)
    have hnews := (hr.below hb0).adds
    go_enter Tryz.func94, Tryz.ntmps94
    go_wp2_with (refine wpList_append_own _ rfl (.tmp 5) (.tmp 6) 34 rfl w.heap.size 5 i0 (.int .u8 0) 1 1 Tryz.underlying34 hi hz0 hz1 hz2 rfl (by decide) _ 0 _ rfl hown ad xs.length c (byCells xs) rfl ?_ hnews (byCells_one _) ?_ ?_ (by simp) ?_; (rw [hl]; simp); (simp [maxLen]; omega); (simp; omega); intro v' w1 hown' hg _)
    go_ret
    exact ⟨⟨_, rfl, by simpa using hown'⟩, hb0.grown hg (by simp) (fun k e => by cases e; simp)⟩
end Go.Proofs.YtfdnobhedbglgaaGreatDoor
