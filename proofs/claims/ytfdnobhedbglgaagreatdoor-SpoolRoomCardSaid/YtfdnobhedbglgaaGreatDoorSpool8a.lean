import Derived.Test.YtfdnobhedbglgaaGreatDoorSpool7
import Derived.OwnWalkIn
import Derived.RangeFuncBox
namespace Go.Proofs.YtfdnobhedbglgaaGreatDoor
open Go Go.RowKit Go.Shelf
attribute [local go_sem] Oper.semAt_some
/-- An event in a row, its lists by where they lie. -/
structure Er where
  e : Ev
  A : Option Addr
  c : Nat
  B : Option Addr
  d : Nat
def Er.cells (r : Er) : List Value := [.int .i64 r.e.node, .int .i64 r.e.seq, .string r.e.path, .int .i64 r.e.kind, .int .i64 r.e.mode, .slice r.A r.e.bytes.length r.c, .slice r.B r.e.past.length r.d]
def erCells (R : List Er) : List Value := R.flatMap Er.cells
theorem erCells_length (R : List Er) : (erCells R).length = R.length * 7 := by
  induction R with
  | nil => rfl
  | cons r l ih => simp [erCells, Er.cells] at ih ⊢; omega
theorem erCells_one (R : List Er) : ∀ u ∈ erCells R, u.oneCell' = true := by
  intro u hu
  simp only [erCells, List.mem_flatMap] at hu
  obtain ⟨r, _, hu⟩ := hu
  simp [Er.cells] at hu
  rcases hu with rfl | rfl | rfl | rfl | rfl | rfl | rfl <;> rfl
def ErOwn (base : Nat) (W : World) (R : List Er) : Prop := ∀ r : Er, r ∈ R → r.e.short ∧ W.ownsRow base 5 1 (.slice r.A r.e.bytes.length r.c) r.e.bytes.length (byCells r.e.bytes) ∧ W.ownsRow base 95 3 (.slice r.B r.e.past.length r.d) r.e.past.length (spCells r.e.past)
theorem own_ne {W : World} {b1 b2 : Nat} {t1 t2 : TypeId} {s1 s2 n1 n2 : Nat} {v1 v2 : Value} {x1 x2 : List Value} (h1 : W.ownsRow b1 t1 s1 v1 n1 x1) (h2 : W.ownsRow b2 t2 s2 v2 n2 x2) (ht : t1 ≠ t2) : v1.ownBlock = none ∨ v1.ownBlock ≠ v2.ownBlock := by
  rcases h1.2 with ⟨rfl, _⟩ | ⟨g, cap, cur, rfl, _, hg, _⟩
  · exact .inl rfl
  · exact .inr fun e => blk_ne hg h2 ht (e.symm)
theorem ErOwn.below {base : Nat} {W W' : World} {R : List Er} (h : ErOwn base W R) (hb : Below W.heap.size W W') : ErOwn base W' R := fun r hr => ⟨(h r hr).1, own_below (h r hr).2.1 hb, own_below (h r hr).2.2 hb⟩
theorem ErOwn.grown {base : Nat} {W W' : World} {R : List Er} (h : ErOwn base W R) {b n : Nat} {v : Value} {xs : List Value} (ho : W.ownsRow b 39 7 v n xs) (hg : W.grownBy W' v.ownBlock) : ErOwn base W' R := fun r hr =>
  ⟨(h r hr).1, (h r hr).2.1.kept hg (own_ne (h r hr).2.1 ho (by decide)), (h r hr).2.2.kept hg (own_ne (h r hr).2.2 ho (by decide))⟩
theorem ErOwn.set {base : Nat} {W : World} {R : List Er} (h : ErOwn base W R) {b : Nat} {v : Value} (hB : Boxed W b 47 v) (u : Value) : ErOwn base (W.setCell ⟨b, 0, none⟩ u) R := fun r hr =>
  ⟨(h r hr).1, (h r hr).2.1.kept (grown_set _ _ _ _) (.inr (blk_ne hB (h r hr).2.1 (by decide))), (h r hr).2.2.kept (grown_set _ _ _ _) (.inr (blk_ne hB (h r hr).2.2 (by decide)))⟩
theorem infoE : (Tryz.prog.info? 39).map (fun i => (i.zero, i.size, i.bytes)) = some (some (.agg #[.int .i64 0, .int .i64 0, .string ⟨#[]⟩, .int .i64 0, .int .i64 0, .slice none 0 0, .slice none 0 0]), 7, 96) := by kernel_rfl
end Go.Proofs.YtfdnobhedbglgaaGreatDoor
