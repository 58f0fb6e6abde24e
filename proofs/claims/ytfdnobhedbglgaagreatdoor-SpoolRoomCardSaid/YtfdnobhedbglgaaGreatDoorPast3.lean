import Derived.Test.YtfdnobhedbglgaaGreatDoorBytes1
import Derived.Lib.AppendZeros
namespace Go.Proofs.YtfdnobhedbglgaaGreatDoor
open Go Go.RowKit Go.Shelf
/-- Four bytes of a number, the greatest first. -/
def fourB (n : Int) : List UInt8 := [UInt8.ofNat (n / 16777216 % 256).toNat, UInt8.ofNat (n / 65536 % 256).toNat, UInt8.ofNat (n / 256 % 256).toNat, UInt8.ofNat (n % 256).toNat]
theorem ofNat_int (x : Int) : (((UInt8.ofNat (x % 256).toNat).toNat : Nat) : Int) = x % 256 := by
  simp; omega
theorem fourB_cells (n : Int) : byCells (fourB n) = [.int .u8 (n / 16777216 % 256), .int .u8 (n / 65536 % 256), .int .u8 (n / 256 % 256), .int .u8 (n % 256)] := by
  show [Value.int .u8 (((UInt8.ofNat (n / 16777216 % 256).toNat).toNat : Nat) : Int), .int .u8 (((UInt8.ofNat (n / 65536 % 256).toNat).toNat : Nat) : Int), .int .u8 (((UInt8.ofNat (n / 256 % 256).toNat).toNat : Nat) : Int), .int .u8 (((UInt8.ofNat (n % 256).toNat).toNat : Nat) : Int)] = _
  rw [ofNat_int, ofNat_int, ofNat_int, ofNat_int]
set_option maxHeartbeats 2000000 in
theorem past_four (n : Int) (w : World) :
    Calls Tryz.prog 90 #[.int .i64 n] w fun e w' => (∃ v', e = .returned v' ∧ w'.ownsRow w.heap.size 5 1 v' 4 (byCells (fourB n))) ∧ Below w.heap.size w w' := by
  go_enter Tryz.func90, Tryz.ntmps90
  go_wp2
  go_ret
  have hl := World.ownsRow_lit (base := w.heap.size) (e := 5) (size := 1) w #[.int .u8 (n / 16777216 % 256), .int .u8 (n / 65536 % 256), .int .u8 (n / 256 % 256), .int .u8 (n % 256)] 4 (Nat.le_refl _) (by simp [maxLen]) (by simp)
  refine ⟨⟨_, rfl, ?_⟩, ?_⟩
  · rw [fourB_cells]; exact hl
  · exact (Below.refl _ _).alloc (Nat.le_refl _) _
/-- A new row without elements. -/
theorem grow_own (w : World) (n : Nat) (e : TypeId) (c : Nat) (hc : n ≤ c) (hm : c ≤ maxLen) :
    (w.alloc (.cells (Builtin.zeroCells (Value.cells (.int .u8 0)) n ++ Builtin.zeroCells (Value.cells (.int .u8 0)) (c - n)) e)).ownsRow w.heap.size e 1 (.slice (some ⟨w.heap.size, 0, none⟩) 0 c) 0 [] := by
  refine ⟨rfl, .inr ⟨_, c, _, rfl, Nat.le_refl _, World.alloc_heap_new _ _, Nat.zero_le _, hm, ?_, by simp⟩⟩
  simp [Builtin.zeroCells, Value.cells]
  omega
set_option maxHeartbeats 2000000 in
set_option maxRecDepth 100000 in
theorem slices_Grow (n : Nat) (h0 : 0 < n) (hn : n ≤ 1000000) (w : World) :
    Calls Tryz.prog 102 #[.slice none 0 0, .int .i64 n] w fun e w' => (∃ v', e = .returned v' ∧ w'.ownsRow w.heap.size 5 1 v' 0 []) ∧ Below w.heap.size w w' := by
  obtain ⟨i0, hi, hz0, hz1, hz2⟩ := info_parts infoB
  have H2 := Lib.hid hz1
  have H3 := Lib.hid hz2
  have hr := fun w => Lib.run_append_nil_zeros (P := Tryz.prog) w 34 3 34 5 i0 (.int .u8 0) .i64 .i64 Tryz.underlying34 Tryz.underlying3 hi hz0 n h0 (by omega) (by omega) (by rw [H3.out]; omega)
  clear hz1 hz2
  go_enter Tryz.func102, Tryz.ntmps102
  go_wp2_with (at_builtin; refine Lib.wpList_append_run _ rfl _ _ _ _ rfl _ _ rfl rfl _ _ (hr _) ?_)
  all_goals go_ret
  all_goals exact ⟨⟨_, rfl, grow_own w.drew n 5 _ (grownCap_ge _ _ _ _) (grownCap_le_maxLen _ _ _ _ (by simp [maxLen]; omega))⟩, ((below_drewN (Below.refl _ w) 1).alloc (Nat.le_refl _) _)⟩
end Go.Proofs.YtfdnobhedbglgaaGreatDoor
