import Derived.Test.YtfdnobhedbglgaaGreatDoorSpool2
namespace Go.Proofs.YtfdnobhedbglgaaGreatDoor
open Go Go.RowKit Go.Shelf
/-- A link: its block, its event, where the event's lists lie. -/
structure Lk where
  b : Nat
  e : Ev
  A : Option Addr
  c : Nat
  B : Option Addr
  d : Nat
def ptrOf (L : List Lk) (k : Nat) : Value := .pointer (L[k]?.map fun l => ⟨l.b, 0, none⟩)
/-- Where link k hangs. -/
def slotOf (g : Nat) (L : List Lk) : Nat → Addr
  | 0 => ⟨g, 3, none⟩
  | k + 1 => ⟨(L[k]?.map (·.b)).getD 0, 8, none⟩
def lkCells (L : List Lk) (k : Nat) (l : Lk) : Array Value := #[.int .i64 l.e.node, .int .i64 l.e.seq, .string l.e.path, .int .i64 l.e.kind, .int .i64 l.e.mode, .slice l.A l.e.bytes.length l.c, .slice l.B l.e.past.length l.d, .int .i64 (l.e.size : Int), ptrOf L (k + 1)]
structure SpoolAt (W : World) (g : Nat) (bytes entries : Int) (L : List Lk) (used most : Int) : Prop where
  head : W.heap[g]? = some (.cells #[.bool true, .int .i64 bytes, .int .i64 entries, ptrOf L 0, .int .i64 used, .int .i64 (L.length : Int), .int .i64 most] 68 (0, 0))
  link : ∀ (k : Nat) (l : Lk), L[k]? = some l → W.heap[l.b]? = some (.cells (lkCells L k l) 75 (0, 0))
  own : ∀ l : Lk, l ∈ L → l.e.short ∧ W.ownsRow g 5 1 (.slice l.A l.e.bytes.length l.c) l.e.bytes.length (byCells l.e.bytes) ∧ W.ownsRow g 95 3 (.slice l.B l.e.past.length l.d) l.e.past.length (spCells l.e.past)
  up : L.Pairwise fun (x y : Lk) => x.b < y.b
  above : ∀ l : Lk, l ∈ L → g < l.b
theorem SpoolAt.keep {W W' : World} {g : Nat} {bytes entries : Int} {L : List Lk} {used most : Int} (h : SpoolAt W g bytes entries L used most) (hb : Below W.heap.size W W') : SpoolAt W' g bytes entries L used most :=
  ⟨(hb.block g (Array.getElem?_eq_some_iff.1 h.head).1).trans h.head, fun k l hl => (hb.block l.b (Array.getElem?_eq_some_iff.1 (h.link k l hl)).1).trans (h.link k l hl),
    fun l hl => ⟨(h.own l hl).1, own_below (h.own l hl).2.1 hb, own_below (h.own l hl).2.2 hb⟩, h.up, h.above⟩
theorem SpoolAt.lt {W : World} {g : Nat} {bytes entries : Int} {L : List Lk} {used most : Int} (h : SpoolAt W g bytes entries L used most) : g < W.heap.size := (Array.getElem?_eq_some_iff.1 h.head).1
theorem SpoolAt.blt {W : World} {g : Nat} {bytes entries : Int} {L : List Lk} {used most : Int} (h : SpoolAt W g bytes entries L used most) {k : Nat} {l : Lk} (hl : L[k]? = some l) : l.b < W.heap.size := (Array.getElem?_eq_some_iff.1 (h.link k l hl)).1
theorem SpoolAt.slot {W : World} {g : Nat} {bytes entries : Int} {L : List Lk} {used most : Int} (h : SpoolAt W g bytes entries L used most) (k : Nat) (hk : k ≤ L.length) : W.cell? (slotOf g L k) = some (ptrOf L k) := by
  cases k with
  | zero => exact (blk_cell h.head 3).trans rfl
  | succ k =>
    have hl : L[k]? = some L[k] := List.getElem?_eq_getElem (by omega)
    have := h.link k _ hl
    simp only [slotOf, hl, Option.map_some, Option.getD_some]
    rw [blk_cell this]; rfl
theorem SpoolAt.ev {W : World} {g : Nat} {bytes entries : Int} {L : List Lk} {used most : Int} (h : SpoolAt W g bytes entries L used most) {l : Lk} (hl : l ∈ L) : EvAt W l.e (l.e.val l.A l.c l.B l.d) :=
  ⟨l.A, l.c, l.B, l.d, rfl, own_by (h.own l hl).2.1, own_sp (h.own l hl).2.2⟩
section
variable {w : World} {g : Nat} {bytes entries : Int} {L : List Lk} {used most : Int}
set_option maxHeartbeats 1000000 in
theorem spool_none (h : SpoolAt w g bytes entries L used most) : Calls Tryz.prog 29 #[.pointer (some ⟨g, 0, none⟩)] w fun e w' => e = .returned (.bool false) ∧ Below w.heap.size w w' := by
  have c0 := blk_cell h.head 0
  simp at c0
  go_enter Tryz.func29, Tryz.ntmps29
  go_wp2
  go_ret
  exact ⟨rfl, Below.refl _ _⟩
set_option maxHeartbeats 1000000 in
theorem spool_Most (h : SpoolAt w g bytes entries L used most) : Calls Tryz.prog 22 #[.pointer (some ⟨g, 0, none⟩)] w fun e w' => e = .returned (.int .i64 most) ∧ Below w.heap.size w w' := by
  go_enter Tryz.func22, Tryz.ntmps22
  go_wp2_with (first | (go_at_call 29; refine (spool_none h).mono ?_; rintro e w1 ⟨rfl, hb1⟩; have c6 := blk_cell (h.keep hb1).head 6; simp at c6) | (go_at_call 47; refine (atomic_Load _ _ _ _ c6).mono ?_; rintro e w2 ⟨rfl, rfl⟩))
  go_ret
  exact ⟨rfl, hb1⟩
set_option maxHeartbeats 1000000 in
theorem spool_Used (h : SpoolAt w g bytes entries L used most) : Calls Tryz.prog 35 #[.pointer (some ⟨g, 0, none⟩)] w fun e w' => e = .returned (.tuple #[.int .i64 used, .int .i64 (L.length : Int)]) ∧ Below w.heap.size w w' := by
  go_enter Tryz.func35, Tryz.ntmps35
  go_wp2_with (first | (go_at_call 29; refine (spool_none h).mono ?_; rintro e w1 ⟨rfl, hb1⟩; have c4 := blk_cell (h.keep hb1).head 4; have c5 := blk_cell (h.keep hb1).head 5; simp at c4 c5))
  go_region_held3 (fun W => W.cell? ⟨g, 4, none⟩ = some (.int .i64 used) ∧ W.cell? ⟨g, 5, none⟩ = some (.int .i64 (L.length : Int))) ((first | assumption | (simp [go_sem, *]))) (first | (go_at_call 47; refine (atomic_Load g _ _ _ (by first | exact (by assumption : _ ∧ _).1 | exact (by assumption : _ ∧ _).2)).mono ?_; rintro e w2 ⟨rfl, rfl⟩))
  go_wp2
  go_ret2
  exact ⟨rfl, below_drew hb1⟩
set_option maxHeartbeats 1000000 in
theorem spool_links (h : SpoolAt w g bytes entries L used most) : Calls Tryz.prog 48 #[.pointer (some ⟨g, 0, none⟩)] w fun e w' => e = .returned (.func (.func 75) #[] #[.pointer (some ⟨w.heap.size, 0, none⟩)]) ∧ w' = w.alloc (.cells #[.pointer (some ⟨g, 0, none⟩)] 25) := by
  have hmf : ∀ (fn : Fn) (first cap : Array Value) (w : World), (Instr.makeFunc fn first cap).run Tryz.prog w = .ok (.func fn first cap) w := fun _ _ _ _ => rfl
  have _ := h
  go_enter Tryz.func48, Tryz.ntmps48
  go_wp2
  go_ret
  exact ⟨rfl, rfl⟩
end
theorem new_at (w : World) (bytes entries : Int) : SpoolAt (w.alloc (.cells #[.bool true, .int .i64 bytes, .int .i64 entries, .pointer none, .int .i64 0, .int .i64 0, .int .i64 0] 68)) w.heap.size bytes entries [] 0 0 :=
  ⟨World.alloc_heap_new _ _, fun k l hl => by simp at hl, fun l hl => by simp at hl, List.Pairwise.nil, fun l hl => by simp at hl⟩
def quotas (bytes entries : Int) : Bool := decide (0 ≤ bytes) && decide (bytes ≤ 10000000) && decide (0 ≤ entries) && decide (entries ≤ 10000)
set_option maxHeartbeats 1000000 in
theorem spool_New_ok (bytes entries : Int) (w : World) (h1 : 0 ≤ bytes) (h2 : bytes ≤ 10000000) (h3 : 0 ≤ entries) (h4 : entries ≤ 10000) : Calls Tryz.prog 7 #[.int .i64 bytes, .int .i64 entries] w fun e w' =>
    e = .returned (.tuple #[.pointer (some ⟨w.heap.size, 0, none⟩), .int .i64 0]) ∧ Below w.heap.size w w' ∧ SpoolAt w' w.heap.size bytes entries [] 0 0 := by
  go_enter Tryz.func7, Tryz.ntmps7
  go_wp2
  all_goals go_ret2
  exact ⟨rfl, below_alloc (Below.refl _ _) _, new_at w bytes entries⟩
set_option maxHeartbeats 1000000 in
theorem spool_New_bad (bytes entries : Int) (w : World) (h : ¬ (0 ≤ bytes ∧ bytes ≤ 10000000 ∧ 0 ≤ entries ∧ entries ≤ 10000)) : Calls Tryz.prog 7 #[.int .i64 bytes, .int .i64 entries] w fun e w' =>
    e = .returned (.tuple #[.pointer none, .int .i64 2]) ∧ Below w.heap.size w w' := by
  go_enter Tryz.func7, Tryz.ntmps7
  go_wp2
  all_goals first | omega | (go_ret2; exact ⟨rfl, Below.refl _ _⟩)
end Go.Proofs.YtfdnobhedbglgaaGreatDoor
