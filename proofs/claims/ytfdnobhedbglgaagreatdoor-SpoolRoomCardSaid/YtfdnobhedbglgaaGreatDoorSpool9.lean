import Derived.Test.YtfdnobhedbglgaaGreatDoorSpool8
namespace Go.Proofs.YtfdnobhedbglgaaGreatDoor
open Go Go.RowKit Go.Shelf
section
variable {w : World} {g : Nat} {bytes entries : Int} {L : List Lk} {used most : Int}
set_option maxHeartbeats 4000000 in
set_option maxRecDepth 100000 in
/-- First, where something waits. -/
theorem spool_First (h : SpoolAt w g bytes entries L used most) (lk : Lk) (hl0 : L[0]? = some lk) : Calls Tryz.prog 28 #[.pointer (some ⟨g, 0, none⟩)] w fun x w' => (∃ v', x = .returned (.tuple #[v', .bool true]) ∧ EvOwn w.heap.size w' lk.e v') ∧ Below w.heap.size w w' := by
  have hb0 := below_alloc (Below.refl _ w) (.cells #[.int .i64 0, .int .i64 0, .string { data := #[] }, .int .i64 0, .int .i64 0, .slice none 0 0, .slice none 0 0] 39)
  have q0 := World.alloc_heap_new w (.cells #[.int .i64 0, .int .i64 0, .string { data := #[] }, .int .i64 0, .int .i64 0, .slice none 0 0, .slice none 0 0] 39)
  have HP := Lib.hid (And.intro hb0 q0)
  clear hb0 q0
  go_enter Tryz.func28, Tryz.ntmps28
  go_wp2_with fail
  obtain ⟨hb0, q0⟩ := HP.out
  clear HP
  generalize (w.alloc _) = W0 at *
  refine (spool_none (h.keep hb0)).mono ?_
  rintro e w1 ⟨rfl, hb1⟩
  have hbw1 := below_trans hb0 hb1
  have q1 := (hb1.block w.heap.size (Array.getElem?_eq_some_iff.1 q0).1).trans q0
  have hh1 := h.keep hbw1
  have c3 := blk_cell hh1.head 3
  have hp0 : ptrOf L 0 = .pointer (some ⟨lk.b, 0, none⟩) := by simp [ptrOf, hl0]
  rw [hp0] at c3
  simp at c3
  have hk := hh1.link 0 _ hl0
  have hev := hh1.ev (List.mem_of_getElem? hl0)
  have hshort := (hh1.own _ (List.mem_of_getElem? hl0)).1
  have e0 := blk_cell hk 0; have e1 := blk_cell hk 1; have e2 := blk_cell hk 2; have e3 := blk_cell hk 3; have e4 := blk_cell hk 4; have e5 := blk_cell hk 5; have e6 := blk_cell hk 6
  simp [lkCells] at e0 e1 e2 e3 e4 e5 e6
  clear hk hp0
  go_wp2_with fail
  refine (spool_own lk.e _ w1 hshort hev).mono ?_
  rintro e w2 ⟨⟨v2, rfl, A2, c2, B2, d2, rfl, o1, o2⟩, hb2⟩
  have q2 := (hb2.block w.heap.size (Array.getElem?_eq_some_iff.1 q1).1).trans q1
  have hF := set7 q2 (.int .i64 lk.e.node) (.int .i64 lk.e.seq) (.string lk.e.path) (.int .i64 lk.e.kind) (.int .i64 lk.e.mode) (.slice A2 lk.e.bytes.length c2) (.slice B2 lk.e.past.length d2)
  have HF := Lib.hid hF
  have k0 := blk_cell q2 0; have k1 := blk_cell q2 1; have k2 := blk_cell q2 2; have k3 := blk_cell q2 3; have k4 := blk_cell q2 4; have k5 := blk_cell q2 5; have k6 := blk_cell q2 6
  have l0 := blk_free q2 0; have l1 := blk_free q2 1; have l2 := blk_free q2 2; have l3 := blk_free q2 3; have l4 := blk_free q2 4; have l5 := blk_free q2 5; have l6 := blk_free q2 6
  simp at k0 k1 k2 k3 k4 k5 k6
  clear hF q0 q1 e0 e1 e2 e3 e4 e5 e6 c3
  go_wp2_with fail
  obtain ⟨F1, F2, F3⟩ := HF.out
  clear HF
  generalize (World.setCell (World.setCell (World.setCell (World.setCell (World.setCell (World.setCell (World.setCell _ _ _) _ _) _ _) _ _) _ _) _ _) _ _) = WF at *
  have z0 := blk_cell F1 0; have z1 := blk_cell F1 1; have z2 := blk_cell F1 2; have z3 := blk_cell F1 3; have z4 := blk_cell F1 4; have z5 := blk_cell F1 5; have z6 := blk_cell F1 6
  simp at z0 z1 z2 z3 z4 z5 z6
  have hsz := hbw1.size
  refine bodyPost_ret (v := .tuple #[.agg #[.int .i64 lk.e.node, .int .i64 lk.e.seq, .string lk.e.path, .int .i64 lk.e.kind, .int .i64 lk.e.mode, .slice A2 lk.e.bytes.length c2, .slice B2 lk.e.past.length d2], .bool true]) (by simp [results, Tryz.results28, go_sem, z0, z1, z2, z3, z4, z5, z6]) rfl ⟨⟨_, rfl, A2, c2, B2, d2, rfl, ?_, ?_⟩, ?_⟩
  · exact own_ge' (F3 _ _ _ _ _ _ (by decide) o1) _ hsz
  · exact own_ge' (F3 _ _ _ _ _ _ (by decide) o2) _ hsz
  · exact (below_trans hbw1 hb2).trans F2
end
end Go.Proofs.YtfdnobhedbglgaaGreatDoor
