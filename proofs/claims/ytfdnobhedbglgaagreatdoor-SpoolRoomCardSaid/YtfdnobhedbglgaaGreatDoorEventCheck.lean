import Derived.Test.YtfdnobhedbglgaaGreatDoorPathCheck
import Derived.Test.YtfdnobhedbglgaaGreatDoorPast2
import Derived.Test.YtfdnobhedbglgaaGreatDoorEffect1
import Derived.Laws.EntriesVeiled
namespace Go.Proofs.YtfdnobhedbglgaaGreatDoor
open Go Go.RowKit Go.Shelf
/-- An event's fields, its lists by where they lie. -/
structure Ev where
  (node seq : Int)
  path : ByteArray
  (kind mode : Int)
  bytes : List UInt8
  past : List Sp
/-- An event as it is handed over. -/
abbrev evV (node seq : Int) (path : ByteArray) (kind mode : Int) (vb vp : Value) : Value := .agg #[.int .i64 node, .int .i64 seq, .string path, .int .i64 kind, .int .i64 mode, vb, vp]
def evOkF (node seq : Int) (path : List UInt8) (kind mode : Int) (n : Nat) (past : List Sp) : Bool :=
  dotOk node seq && pathL path && effOk kind mode n && pastOk past && decide (lastOf past node < seq)
section
variable (node seq kind mode : Int) (path : ByteArray) (A B : Option Addr) (n c d : Nat) (past : List Sp) (w : World)
set_option maxHeartbeats 1000000 in
theorem asked_dot : Calls Tryz.prog 52 #[evV node seq path kind mode (.slice A n c) (.slice B past.length d)] w fun e w' => e = .returned (.bool (dotOk node seq)) ∧ Below w.heap.size w w' := by
  have hb := (Below.refl w.heap.size w).alloc (Nat.le_refl _) (.cells #[.int .i64 node, .int .i64 seq, .string path, .int .i64 kind, .int .i64 mode, .slice A n c, .slice B past.length d] 100)
  go_enter Tryz.func52, Tryz.ntmps52
  go_wp2_with (go_at_call 76; refine (dot_Check _ _ _).mono ?_; rintro e w1 ⟨rfl, hb1⟩)
  go_ret
  exact ⟨ret_bool (by cases dotOk node seq <;> rfl), below_trans hb hb1⟩
set_option maxHeartbeats 1000000 in
theorem asked_path (hp : path.size ≤ 140737488351232) : Calls Tryz.prog 53 #[evV node seq path kind mode (.slice A n c) (.slice B past.length d)] w fun e w' => e = .returned (.bool (pathL path.data.toList)) ∧ Below w.heap.size w w' := by
  have hb := (Below.refl w.heap.size w).alloc (Nat.le_refl _) (.cells #[.int .i64 node, .int .i64 seq, .string path, .int .i64 kind, .int .i64 mode, .slice A n c, .slice B past.length d] 100)
  go_enter Tryz.func53, Tryz.ntmps53
  go_wp2_with (go_at_call 77; refine (path_Check _ hp _).mono ?_; rintro e w1 ⟨rfl, hb1⟩)
  go_ret
  exact ⟨ret_bool (by cases pathL path.data.toList <;> rfl), below_trans hb hb1⟩
set_option maxHeartbeats 1000000 in
theorem asked_effect (hn : n ≤ 9223372036854775807) : Calls Tryz.prog 54 #[evV node seq path kind mode (.slice A n c) (.slice B past.length d)] w fun e w' => e = .returned (.bool (effOk kind mode n)) ∧ Below w.heap.size w w' := by
  have hb := (Below.refl w.heap.size w).alloc (Nat.le_refl _) (.cells #[.int .i64 node, .int .i64 seq, .string path, .int .i64 kind, .int .i64 mode, .slice A n c, .slice B past.length d] 100)
  go_enter Tryz.func54, Tryz.ntmps54
  go_wp2_with (go_at_call 78; refine (effect_Check _ _ _ _ _ hn _).mono ?_; rintro e w1 ⟨rfl, hb1⟩)
  go_ret
  exact ⟨ret_bool (by cases effOk kind mode n <;> rfl), below_trans hb hb1⟩
set_option maxHeartbeats 1000000 in
theorem asked_past (hx : SpAt w B past) (hn : past.length ≤ 4611686018427387904) : Calls Tryz.prog 55 #[evV node seq path kind mode (.slice A n c) (.slice B past.length d)] w fun e w' => e = .returned (.bool (pastOk past)) ∧ Below w.heap.size w w' := by
  have hb := (Below.refl w.heap.size w).alloc (Nat.le_refl _) (.cells #[.int .i64 node, .int .i64 seq, .string path, .int .i64 kind, .int .i64 mode, .slice A n c, .slice B past.length d] 100)
  go_enter Tryz.func55, Tryz.ntmps55
  go_wp2_with (go_at_call 79; refine (past_Check _ _ _ _ (hx.below hb) hn).mono ?_; rintro e w1 ⟨rfl, hb1⟩)
  go_ret
  exact ⟨ret_bool (by cases pastOk past <;> rfl), below_trans hb hb1⟩
set_option maxHeartbeats 1000000 in
theorem asked_first (hx : SpAt w B past) (hn : past.length ≤ 4611686018427387904) : Calls Tryz.prog 56 #[evV node seq path kind mode (.slice A n c) (.slice B past.length d)] w fun e w' => e = .returned (.bool (decide (lastOf past node < seq))) ∧ Below w.heap.size w w' := by
  have hb := (Below.refl w.heap.size w).alloc (Nat.le_refl _) (.cells #[.int .i64 node, .int .i64 seq, .string path, .int .i64 kind, .int .i64 mode, .slice A n c, .slice B past.length d] 100)
  go_enter Tryz.func56, Tryz.ntmps56
  go_wp2_with fail
  go_region_held3 (fun W => W.cell? ⟨w.heap.size, 0, none⟩ = some (.int .i64 node) ∧ W.cell? ⟨w.heap.size, 1, none⟩ = some (.int .i64 seq) ∧ W.cell? ⟨w.heap.size, 6, none⟩ = some (.slice B past.length d)) (go_keep)
    (first | (go_at_call 80; refine (past_Last _ _ _ _ _ ?_ hn).mono ?_; (exact (hx.below hb.drew)); rintro e w1 ⟨rfl, hb1⟩; have k0 := ((bcell hb1).1 w.heap.size 0 (by simp)); have k1 := ((bcell hb1).1 w.heap.size 1 (by simp)); have k6 := ((bcell hb1).1 w.heap.size 6 (by simp))))
  go_wp2
  go_ret
  exact ⟨rfl, below_trans (hb.drew) hb1⟩
end
end Go.Proofs.YtfdnobhedbglgaaGreatDoor
