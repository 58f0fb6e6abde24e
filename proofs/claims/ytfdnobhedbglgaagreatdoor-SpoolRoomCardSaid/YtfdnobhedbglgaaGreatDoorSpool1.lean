import Derived.Test.YtfdnobhedbglgaaGreatDoorEventBytes
import Derived.Laws.LoneSync
namespace Go.Proofs.YtfdnobhedbglgaaGreatDoor
open Go Go.RowKit Go.Shelf
set_option maxHeartbeats 1000000 in
theorem atomic_Load (g o : Nat) (n : Int) (w : World) (h : w.cell? ⟨g, o, none⟩ = some (.int .i64 n)) :
    Calls Tryz.prog 47 #[.pointer (some ⟨g, o, none⟩)] w fun e w' => e = .returned (.int .i64 n) ∧ w' = w := by
  have hl := run_call_load (P := Tryz.prog) Tryz.func74 (by kernel_rfl) (by kernel_rfl) (by kernel_rfl) .i64 (by kernel_rfl) h
  go_enter Tryz.func47, Tryz.ntmps47
  go_wp2
  go_ret
  exact ⟨rfl, rfl⟩
set_option maxHeartbeats 1000000 in
theorem atomic_Add (g o : Nat) (n m : Int) (w : World) (h : w.cell? ⟨g, o, none⟩ = some (.int .i64 n)) (hf : w.frozen? ⟨g, o, none⟩ = false) (h1 : -9223372036854775808 ≤ n + m) (h2 : n + m ≤ 9223372036854775807) :
    Calls Tryz.prog 31 #[.pointer (some ⟨g, o, none⟩), .int .i64 m] w fun e w' => e = .returned (.int .i64 (n + m)) ∧ w' = w.setCell ⟨g, o, none⟩ (.int .i64 (n + m)) := by
  have hw := IntWalk.i64_in (n + m) ⟨h1, h2⟩
  have hl := run_call_add (P := Tryz.prog) Tryz.func50 (by kernel_rfl) (by kernel_rfl) (by kernel_rfl) .i64 (by kernel_rfl) (y := m) (s := n + m) h hf (by simp [go_sem, hw])
  go_enter Tryz.func31, Tryz.ntmps31
  go_wp2
  go_ret
  exact ⟨rfl, rfl⟩
set_option maxHeartbeats 1000000 in
theorem atomic_Cas (g o : Nat) (n m : Int) (w : World) (h : w.cell? ⟨g, o, none⟩ = some (.int .i64 n)) (hf : w.frozen? ⟨g, o, none⟩ = false) :
    Calls Tryz.prog 59 #[.pointer (some ⟨g, o, none⟩), .int .i64 n, .int .i64 m] w fun e w' => e = .returned (.bool true) ∧ w' = w.setCell ⟨g, o, none⟩ (.int .i64 m) := by
  have hl := run_call_cas_hit (P := Tryz.prog) Tryz.func81 (by kernel_rfl) (by kernel_rfl) (by kernel_rfl) .i64 (by kernel_rfl) (y := m) h hf
  go_enter Tryz.func59, Tryz.ntmps59
  go_wp2
  go_ret
  exact ⟨rfl, rfl⟩
set_option maxHeartbeats 1000000 in
theorem spool_raise (g o : Nat) (n m : Int) (w : World) (h : w.cell? ⟨g, o, none⟩ = some (.int .i64 n)) (hf : w.frozen? ⟨g, o, none⟩ = false) :
    Calls Tryz.prog 38 #[.pointer (some ⟨g, o, none⟩), .int .i64 m] w fun e w' => e = .returned (.tuple #[]) ∧ w' = if m ≤ n then w else w.setCell ⟨g, o, none⟩ (.int .i64 m) := by
  by_cases hm : m ≤ n
  · rw [if_pos hm]
    go_enter Tryz.func38, Tryz.ntmps38
    go_wp2
    go_loop [4, 5, 6] (fun _ _ _ => True) (fun _ _ _ => 0)
    case atStart => trivial
    case round =>
      go_wp2_with (go_at_call 47; refine (atomic_Load g o n _ h).mono ?_; rintro e w1 ⟨rfl, rfl⟩)
      refine bodyPost_ret (v := .tuple #[]) (by simp [results, Tryz.results38, go_sem]) rfl ?_
      exact ⟨rfl, rfl⟩
  · rw [if_neg hm]
    go_enter Tryz.func38, Tryz.ntmps38
    go_wp2
    go_loop [4, 5, 6] (fun _ _ _ => True) (fun _ _ _ => 0)
    case atStart => trivial
    case round =>
      go_wp2_with (first | (go_at_call 47; refine (atomic_Load g o n _ h).mono ?_; rintro e w1 ⟨rfl, rfl⟩) | (go_at_call 59; refine (atomic_Cas g o n m _ h hf).mono ?_; rintro e w1 ⟨rfl, rfl⟩))
      refine bodyPost_ret (v := .tuple #[]) (by simp [results, Tryz.results38, go_sem]) rfl ?_
      exact ⟨rfl, rfl⟩
end Go.Proofs.YtfdnobhedbglgaaGreatDoor
