import Derived.Test.YtfdnobhedbglgaaGreatDoorPast1
import Derived.Laws.ByValue
import Derived.WalkMore
namespace Go.Proofs.YtfdnobhedbglgaaGreatDoor
open Go Go.RowKit Go.Shelf
def lastStep (node : Int) (n : Int) (x : Sp) : Int := if x.n = node then max n x.t else n
def lastOf (xs : List Sp) (node : Int) : Int := if pastOk xs then xs.foldl (lastStep node) 0 else 0
set_option maxHeartbeats 1000000 in
theorem past_Last_1 (n : Int) (x : Sp) (node : Int) (B : Nat) (w : World) (hB : w.cell? ⟨B, 0, none⟩ = some (.int .i64 node)) :
    Calls Tryz.prog 99 #[.int .i64 n, .agg #[.int .i64 x.n, .int .i64 x.f, .int .i64 x.t], .pointer (some ⟨B, 0, none⟩)] w fun e w' => e = .returned (.int .i64 (lastStep node n x)) ∧ Below w.heap.size w w' := by
  have hlt := cell_lt hB
  go_enter Tryz.func99, Tryz.ntmps99
  go_wp2
  all_goals
    go_ret
    refine ⟨ret_int ?_, (Below.refl _ _).alloc (Nat.le_refl _) _⟩
    simp only [bne_iff_ne, bne_eq_false_iff_eq] at *
    unfold lastStep
    split <;> omega
set_option maxHeartbeats 2000000 in
set_option maxRecDepth 100000 in
theorem past_fold_Last (A : Option Addr) (xs : List Sp) (c : Nat) (node : Int) (B : Nat) (w : World) (hB : w.cell? ⟨B, 0, none⟩ = some (.int .i64 node)) (hx : SpAt w A xs) (hn : xs.length ≤ 4611686018427387904) :
    Calls Tryz.prog 98 #[.slice A xs.length c, .func (.func 99) #[] #[.pointer (some ⟨B, 0, none⟩)]] w fun e w' => e = .returned (.int .i64 (lastOf xs node)) ∧ Below w.heap.size w w' := by
  have eg := enters_of Tryz.func99 (by kernel_rfl) rfl
  have hBl := cell_lt hB
  by_cases hp : pastOk xs = true
  · have E0 : Hid (errOf (pastOk xs) = 0) := by rw [hp]; rfl
    go_enter Tryz.func98, Tryz.ntmps98
    go_wp2_with (go_at_call 79; refine (past_Check _ _ _ _ hx hn).mono ?_; rw [E0.out]; rintro e w1 ⟨rfl, hb1⟩)
    go_loopw [5, 7, 14] (fun n _ i wr => ∃ k : Nat, k ≤ xs.length ∧ i = .int .i64 k ∧ n = .int .i64 ((xs.take k).foldl (lastStep node) 0) ∧ Below w.heap.size w wr) (fun _ _ i _ => xs.length - (intOf i).toNat)
    case atStart => exact ⟨0, Nat.zero_le _, rfl, rfl, hb1⟩
    case round =>
      obtain ⟨k, hk, rfl, rfl, hb⟩ := hrel
      by_cases hlt : k < xs.length
      · obtain ⟨b, o, rfl, hc⟩ := hx (by omega)
        have hbl := cell_lt (hc k hlt).1
        obtain ⟨h1, h2, h3⟩ := hc k hlt
        replace h1 := ((bcell hb).1 _ _ hbl).trans h1
        replace h2 := ((bcell hb).1 _ _ hbl).trans h2
        replace h3 := ((bcell hb).1 _ _ hbl).trans h3
        have hB2 := ((bcell hb).1 _ _ hBl).trans hB
        have hsz := hb.size
        have hts : Hid ((xs.take (k + 1)).foldl (lastStep node) 0 = lastStep node ((xs.take k).foldl (lastStep node) 0) (xs.getD k zSp)) := Lib.hid (by
          rw [List.take_succ_eq_append_getElem hlt, List.foldl_append]; simp [hlt])
        generalize xs.getD k zSp = x at h1 h2 h3 hts
        have hbb := fun (o : Obj) => hb.alloc hsz o
        have hBa := fun (o : Obj) => ((bcell (hbb o)).1 _ _ hBl).trans hB
        clear hc hx
        go_wp2_with (go_at_call 99; refine (past_Last_1 _ x node _ _ (hBa _)).mono ?_; rintro e w2 ⟨rfl, hb2⟩)
        go_roundw
        case rel => exact ⟨k + 1, by omega, by simp, by rw [hts.out], (hbb _).trans (hb2.mono (hbb _).size)⟩
        case measure => simp [intOf]; omega
      · obtain rfl : k = xs.length := by omega
        go_wp2
        go_ret
        exact ⟨ret_int (by simp [lastOf, hp]), hb⟩
  · have hp' : pastOk xs = false := by simpa using hp
    have E0 : Hid (errOf (pastOk xs) = 2) := by rw [hp']; rfl
    go_enter Tryz.func98, Tryz.ntmps98
    go_wp2_with (go_at_call 79; refine (past_Check _ _ _ _ hx hn).mono ?_; rw [E0.out]; rintro e w1 ⟨rfl, hb1⟩)
    go_ret
    exact ⟨ret_int (by simp [lastOf, hp']), hb1⟩
set_option maxHeartbeats 1000000 in
theorem past_Last (A : Option Addr) (xs : List Sp) (c : Nat) (node : Int) (w : World) (hx : SpAt w A xs) (hn : xs.length ≤ 4611686018427387904) :
    Calls Tryz.prog 80 #[.slice A xs.length c, .int .i64 node] w fun e w' => e = .returned (.int .i64 (lastOf xs node)) ∧ Below w.heap.size w w' := by
  have hmf : ∀ (fn : Fn) (first cap : Array Value) (w : World), (Instr.makeFunc fn first cap).run Tryz.prog w = .ok (.func fn first cap) w := fun _ _ _ _ => rfl
  have hb : Below w.heap.size w (w.alloc (.cells #[.int .i64 node] 3)) := (Below.refl _ _).alloc (Nat.le_refl _) _
  have hc := (Boxed.new w 3 (.int .i64 node)).cell
  go_enter Tryz.func80, Tryz.ntmps80
  go_wp2_with (go_at_call 98; refine (past_fold_Last _ _ _ _ _ _ hc (hx.below hb) hn).mono ?_; rintro e w1 ⟨rfl, hb1⟩)
  go_ret
  exact ⟨rfl, below_trans hb hb1⟩
end Go.Proofs.YtfdnobhedbglgaaGreatDoor
