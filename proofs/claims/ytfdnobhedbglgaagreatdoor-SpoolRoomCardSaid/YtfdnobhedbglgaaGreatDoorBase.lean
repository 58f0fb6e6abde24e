/- Words of mine that all texts share: what a slice of spans, of bytes reads as; small facts on worlds. -/
import Derived.WalkKit
import Derived.Below
import Derived.BigQuiet
import Derived.Deep.QuietTactic
import Derived.KernelRfl
import Derived.Lib.Hide
import Derived.Lib.Strings
import Derived.RangeFuncBox
import Derived.RangeFuncLeaves
import Derived.RangeFuncNested
import Derived.Shelf.Abstract
namespace Go.Proofs.YtfdnobhedbglgaaGreatDoor
open Go Go.RowKit Go.Shelf
/-! worlds -/
theorem bcell {W w1 : World} (hb : Below W.heap.size W w1) : (∀ b o, b < W.heap.size → w1.cell? ⟨b, o, none⟩ = W.cell? ⟨b, o, none⟩) ∧ (∀ b o, b < W.heap.size → w1.frozen? ⟨b, o, none⟩ = W.frozen? ⟨b, o, none⟩) :=
  ⟨fun b o h => hb.cell (p := ⟨b, o, none⟩) h, fun b o h => hb.frozen (p := ⟨b, o, none⟩) h⟩
theorem alloc_get (w : World) (o : Obj) (k : Nat) : (w.alloc o).heap[k]? = if k = w.heap.size then some o else w.heap[k]? := by
  unfold World.alloc
  simp only [Array.getElem?_push]
theorem grown_of_below' {w w1 : World} (h : Below w.heap.size w w1) (row : Option Nat) : w.grownBy w1 row := ⟨h.os, h.tape, h.output, h.size, fun i hi _ => h.block i hi⟩
theorem below_drewN {B : Nat} {w W : World} (h : Below B w W) (n : Nat) : Below B w (W.drewN n) := ⟨h.os, h.tape, h.output, h.size, h.block⟩
theorem below_trans {w w1 w2 : World} (h : Below w.heap.size w w1) (k : Below w1.heap.size w1 w2) : Below w.heap.size w w2 := h.trans (k.mono h.size)
theorem cell_lt {w : World} {b o : Nat} {v : Value} (h : w.cell? ⟨b, o, none⟩ = some v) : b < w.heap.size := World.block_lt_of_cell? w _ h
theorem ret_int {k : IntKind} {a b : Int} (h : a = b) : Ending.returned (.int k a) = .returned (.int k b) := by rw [h]
theorem ret_bool {a b : Bool} (h : a = b) : Ending.returned (.bool a) = .returned (.bool b) := by rw [h]
/-! data -/
structure Sp where
  (n f t : Int)
deriving DecidableEq
def zSp : Sp := ⟨0, 0, 0⟩
/-- What a slice of spans reads as. -/
def SpAt (W : World) (A : Option Addr) (xs : List Sp) : Prop :=
  0 < xs.length → ∃ b o, A = some ⟨b, o, none⟩ ∧ ∀ k, k < xs.length → W.cell? ⟨b, o + k * 3, none⟩ = some (.int .i64 (xs.getD k zSp).n) ∧ W.cell? ⟨b, o + k * 3 + 1, none⟩ = some (.int .i64 (xs.getD k zSp).f) ∧ W.cell? ⟨b, o + k * 3 + 2, none⟩ = some (.int .i64 (xs.getD k zSp).t)
theorem SpAt.below {W W' : World} {A : Option Addr} {xs : List Sp} (h : SpAt W A xs) (hb : Below W.heap.size W W') : SpAt W' A xs := by
  intro h0
  obtain ⟨b, o, e, hc⟩ := h h0
  have hlt := cell_lt (hc 0 h0).1
  exact ⟨b, o, e, fun k hk => by obtain ⟨h1, h2, h3⟩ := hc k hk; exact ⟨((bcell hb).1 _ _ hlt).trans h1, ((bcell hb).1 _ _ hlt).trans h2, ((bcell hb).1 _ _ hlt).trans h3⟩⟩
end Go.Proofs.YtfdnobhedbglgaaGreatDoor
