import Derived.Test.YtfdnobhedbglgaaGreatDoorPast1
import Derived.Deep.RegionWith
import Derived.Deep.RegionHeld3
import Derived.WalkMore
namespace Go.Proofs.YtfdnobhedbglgaaGreatDoor
open Go Go.RowKit Go.Shelf
def dotOk (n s : Int) : Bool := decide (1 ≤ n) && decide (n ≤ 200) && decide (1 ≤ s) && decide (s ≤ 2147483647)
set_option maxHeartbeats 1000000 in
theorem dot_Check (n s : Int) (w : World) :
    Calls Tryz.prog 76 #[.agg #[.int .i64 n, .int .i64 s]] w fun e w' => e = .returned (.int .i64 (errOf (dotOk n s))) ∧ Below w.heap.size w w' := by
  go_enter Tryz.func76, Tryz.ntmps76
  go_wp2
  all_goals
    go_ret
    exact ⟨ret_int (by simp only [errOf, dotOk]; simp; omega), (Below.refl _ _).alloc (Nat.le_refl _) _⟩
set_option maxHeartbeats 1000000 in
theorem ref06_Check (n s : Int) (w : World) :
    Calls Tryz.prog 61 #[.agg #[.int .i64 n, .int .i64 s]] w fun e w' => e = .returned (.int .i64 (errOf (dotOk n s))) ∧ Below w.heap.size w w' := by
  go_enter Tryz.func61, Tryz.ntmps61
  go_wp2
  all_goals
    go_ret
    exact ⟨ret_int (by simp only [errOf, dotOk]; simp; omega), (Below.refl _ _).alloc (Nat.le_refl _) _⟩
def effMode (k : Int) : Int := if k = 3 then 0 else 511
def effBytes (k : Int) : Int := if k = 1 then 1000 else 0
def effOk (k m : Int) (n : Nat) : Bool := decide (1 ≤ k) && decide (k ≤ 3) && decide (0 ≤ m) && decide (m ≤ effMode k) && decide ((n : Int) ≤ effBytes k)
set_option maxHeartbeats 1000000 in
theorem effect_rules (w : World) :
    Calls Tryz.prog 97 #[] w fun e w' => e = .returned (.agg #[.int .i64 0, .int .i64 0, .int .i64 511, .int .i64 1000, .int .i64 511, .int .i64 0, .int .i64 0, .int .i64 0]) ∧ w.alloc (.cells #[.int .i64 0, .int .i64 0, .int .i64 511, .int .i64 1000, .int .i64 511, .int .i64 0, .int .i64 0, .int .i64 0] 134) = w' := by
  go_enter Tryz.func97, Tryz.ntmps97
  go_wp2
  exact bodyPost_ret (v := .agg #[.int .i64 0, .int .i64 0, .int .i64 511, .int .i64 1000, .int .i64 511, .int .i64 0, .int .i64 0, .int .i64 0]) (by simp [results, Tryz.results97, go_sem]) rfl ⟨rfl, rfl⟩
theorem rules_at (k : Int) (h1 : 1 ≤ k) (h2 : k ≤ 3) (w : World) : (Instr.index 134 (.agg #[.int .i64 0, .int .i64 0, .int .i64 511, .int .i64 1000, .int .i64 511, .int .i64 0, .int .i64 0, .int .i64 0]) (.int .i64 k)).run Tryz.prog w = .ok (.agg #[.int .i64 (effMode k), .int .i64 (effBytes k)]) w := by
  obtain rfl | rfl | rfl : k = 1 ∨ k = 2 ∨ k = 3 := by omega
  all_goals kernel_rfl
set_option maxHeartbeats 4000000 in
set_option maxRecDepth 100000 in
theorem effect_Check (k m : Int) (A : Option Addr) (n c : Nat) (_hn : n ≤ 9223372036854775807) (w : World) :
    Calls Tryz.prog 78 #[.agg #[.int .i64 k, .int .i64 m, .slice A n c]] w fun e w' => e = .returned (.int .i64 (errOf (effOk k m n))) ∧ Below w.heap.size w w' := by
  by_cases hk : 1 ≤ k ∧ k ≤ 3
  · obtain ⟨hk1, hk2⟩ := hk
    have ik := rules_at k hk1 hk2
    have hm : 0 ≤ effMode k ∧ effMode k ≤ 511 ∧ 0 ≤ effBytes k ∧ effBytes k ≤ 1000 := by unfold effMode effBytes; split <;> split <;> omega
    obtain ⟨m1, m2, m3, m4⟩ := hm
    go_enter Tryz.func78, Tryz.ntmps78
    go_wp2_with fail
    go_region_held3 (fun W => W.cell? ⟨w.heap.size, 0, none⟩ = some (.int .i64 k)) (go_keep) (first | (go_at_call 97; refine (effect_rules _).mono ?_; rintro e w1 ⟨rfl, rfl⟩))
    all_goals go_wp2
    all_goals
      go_ret
      exact ⟨ret_int (by simp only [errOf, effOk]; simp; omega), by repeat (first | exact Below.refl _ _ | refine Below.alloc ?_ (by simp; try omega) _ | refine below_drewN ?_ _ | refine Below.drew ?_)⟩
  · go_enter Tryz.func78, Tryz.ntmps78
    go_wp2_with fail
    all_goals try (go_ret; exact ⟨ret_int (by simp only [errOf, effOk]; simp; omega), (Below.refl _ _).alloc (Nat.le_refl _) _⟩)
    all_goals omega
end Go.Proofs.YtfdnobhedbglgaaGreatDoor
