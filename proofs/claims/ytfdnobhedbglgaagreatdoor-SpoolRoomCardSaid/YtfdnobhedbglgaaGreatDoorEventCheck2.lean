import Derived.Test.YtfdnobhedbglgaaGreatDoorEventCheck
import Derived.LoopN
namespace Go.Proofs.YtfdnobhedbglgaaGreatDoor
open Go Go.RowKit Go.Shelf
section
variable (node seq kind mode : Int) (path : ByteArray) (A B : Option Addr) (n c d : Nat) (past : List Sp) (w : World)
def checks : List Bool := [dotOk node seq, pathL path.data.toList, effOk kind mode n, pastOk past, decide (lastOf past node < seq)]
theorem checks_all : (checks node seq kind mode path n past).all id = evOkF node seq path.data.toList kind mode n past := by
  simp [checks, evOkF, Bool.and_assoc]
theorem checks_bad {k : Nat} (hk : k < 5) (h : (checks node seq kind mode path n past).getD k true = false) : errOf (evOkF node seq path.data.toList kind mode n past) = 2 := by
  have : (checks node seq kind mode path n past).all id = false := List.all_eq_false.2 ⟨_, List.getElem_mem (show k < (checks node seq kind mode path n past).length from hk), by simpa [checks, hk] using h⟩
  rw [← checks_all, this]; rfl
theorem checks_good (h : ∀ k, k < 5 → (checks node seq kind mode path n past).getD k true = true) : errOf (evOkF node seq path.data.toList kind mode n past) = 0 := by
  have : (checks node seq kind mode path n past).all id = true := List.all_eq_true.2 fun x hx => by
    obtain ⟨k, hk, rfl⟩ := List.getElem_of_mem hx
    have := h k hk
    simpa [hk] using this
  rw [← checks_all, this]; rfl
set_option maxHeartbeats 8000000 in
set_option maxRecDepth 100000 in
theorem event_Check (hp : path.size ≤ 140737488351232) (hn : n ≤ 9223372036854775807) (hx : SpAt w B past) (hl : past.length ≤ 4611686018427387904) :
    Calls Tryz.prog 36 #[evV node seq path kind mode (.slice A n c) (.slice B past.length d)] w fun e w' => e = .returned (.int .i64 (errOf (evOkF node seq path.data.toList kind mode n past))) ∧ Below w.heap.size w w' := by
  have hmf : ∀ (fn : Fn) (first cap : Array Value) (w : World), (Instr.makeFunc fn first cap).run Tryz.prog w = .ok (.func fn first cap) w := fun _ _ _ _ => rfl
  have hb0 := ((Below.refl w.heap.size w).alloc (Nat.le_refl _) (Obj.cells #[Value.int IntKind.i64 node, Value.int IntKind.i64 seq, Value.string path, Value.int IntKind.i64 kind, Value.int IntKind.i64 mode, Value.slice A n c, Value.slice B past.length d] 39)).alloc (by simp) (Obj.cells #[Value.int IntKind.i64 node, Value.int IntKind.i64 seq, Value.string path, Value.int IntKind.i64 kind, Value.int IntKind.i64 mode, Value.slice A n c, Value.slice B past.length d] 100)
  have hb1 := hb0.alloc (by simp; omega) (Obj.cells #[Value.func (Fn.func 52) #[Value.agg #[Value.int .i64 node, Value.int .i64 seq, Value.string path, Value.int .i64 kind, Value.int .i64 mode, Value.slice A n c, Value.slice B past.length d]] #[], Value.func (Fn.func 53) #[Value.agg #[Value.int .i64 node, Value.int .i64 seq, Value.string path, Value.int .i64 kind, Value.int .i64 mode, Value.slice A n c, Value.slice B past.length d]] #[], Value.func (Fn.func 54) #[Value.agg #[Value.int .i64 node, Value.int .i64 seq, Value.string path, Value.int .i64 kind, Value.int .i64 mode, Value.slice A n c, Value.slice B past.length d]] #[], Value.func (Fn.func 55) #[Value.agg #[Value.int .i64 node, Value.int .i64 seq, Value.string path, Value.int .i64 kind, Value.int .i64 mode, Value.slice A n c, Value.slice B past.length d]] #[], Value.func (Fn.func 56) #[Value.agg #[Value.int .i64 node, Value.int .i64 seq, Value.string path, Value.int .i64 kind, Value.int .i64 mode, Value.slice A n c, Value.slice B past.length d]] #[]] 24)
  have hcell := Lib.hid (World.alloc_heap_new ((w.alloc (Obj.cells #[Value.int IntKind.i64 node, Value.int IntKind.i64 seq, Value.string path, Value.int IntKind.i64 kind, Value.int IntKind.i64 mode, Value.slice A n c, Value.slice B past.length d] 39)).alloc (Obj.cells #[Value.int IntKind.i64 node, Value.int IntKind.i64 seq, Value.string path, Value.int IntKind.i64 kind, Value.int IntKind.i64 mode, Value.slice A n c, Value.slice B past.length d] 100)) (Obj.cells #[Value.func (Fn.func 52) #[Value.agg #[Value.int .i64 node, Value.int .i64 seq, Value.string path, Value.int .i64 kind, Value.int .i64 mode, Value.slice A n c, Value.slice B past.length d]] #[], Value.func (Fn.func 53) #[Value.agg #[Value.int .i64 node, Value.int .i64 seq, Value.string path, Value.int .i64 kind, Value.int .i64 mode, Value.slice A n c, Value.slice B past.length d]] #[], Value.func (Fn.func 54) #[Value.agg #[Value.int .i64 node, Value.int .i64 seq, Value.string path, Value.int .i64 kind, Value.int .i64 mode, Value.slice A n c, Value.slice B past.length d]] #[], Value.func (Fn.func 55) #[Value.agg #[Value.int .i64 node, Value.int .i64 seq, Value.string path, Value.int .i64 kind, Value.int .i64 mode, Value.slice A n c, Value.slice B past.length d]] #[], Value.func (Fn.func 56) #[Value.agg #[Value.int .i64 node, Value.int .i64 seq, Value.string path, Value.int .i64 kind, Value.int .i64 mode, Value.slice A n c, Value.slice B past.length d]] #[]] 24))
  go_enter Tryz.func36, Tryz.ntmps36
  go_wp2_with fail
  generalize hW : (((w.alloc _).alloc _).alloc _) = W2 at *
  go_loopw [5, 20] (fun _ i wr => ∃ k : Nat, k ≤ 5 ∧ i = .int .i64 k ∧ (∀ j, j < k → (checks node seq kind mode path n past).getD j true = true) ∧ Below w.heap.size w wr ∧ wr.heap[w.heap.size + 1 + 1]? = some (Obj.cells #[Value.func (Fn.func 52) #[Value.agg #[Value.int .i64 node, Value.int .i64 seq, Value.string path, Value.int .i64 kind, Value.int .i64 mode, Value.slice A n c, Value.slice B past.length d]] #[], Value.func (Fn.func 53) #[Value.agg #[Value.int .i64 node, Value.int .i64 seq, Value.string path, Value.int .i64 kind, Value.int .i64 mode, Value.slice A n c, Value.slice B past.length d]] #[], Value.func (Fn.func 54) #[Value.agg #[Value.int .i64 node, Value.int .i64 seq, Value.string path, Value.int .i64 kind, Value.int .i64 mode, Value.slice A n c, Value.slice B past.length d]] #[], Value.func (Fn.func 55) #[Value.agg #[Value.int .i64 node, Value.int .i64 seq, Value.string path, Value.int .i64 kind, Value.int .i64 mode, Value.slice A n c, Value.slice B past.length d]] #[], Value.func (Fn.func 56) #[Value.agg #[Value.int .i64 node, Value.int .i64 seq, Value.string path, Value.int .i64 kind, Value.int .i64 mode, Value.slice A n c, Value.slice B past.length d]] #[]] 24)) (fun _ i _ => 5 - (intOf i).toNat)
  case atStart =>
    have := hcell.out
    simp only [World.size_alloc] at this
    exact ⟨0, by omega, rfl, by omega, hb1, this⟩
  case round =>
    obtain ⟨k, hk, rfl, hok, hb, hcs⟩ := hrel
    have hsz := (Array.getElem?_eq_some_iff.1 hcs).1
    have HK := Lib.hid hok
    have HCS := Lib.hid hcs
    by_cases hk5 : k = 5
    · subst hk5
      clear hok
      go_wp2
      go_ret
      exact ⟨ret_int (checks_good _ _ _ _ _ _ _ HK.out).symm, hb⟩
    · obtain rfl | rfl | rfl | rfl | rfl : k = 0 ∨ k = 1 ∨ k = 2 ∨ k = 3 ∨ k = 4 := by omega
      · have hcx : wr.cell? ⟨w.heap.size + 1 + 1, 0, none⟩ = some (Value.func (Fn.func 52) #[.agg #[.int .i64 node, .int .i64 seq, .string path, .int .i64 kind, .int .i64 mode, .slice A n c, .slice B past.length d]] #[]) := by simp [World.cell?, hcs]
        clear hok hcs
        cases hv : (dotOk node seq)
        all_goals
          have HV := Lib.hid hv
          go_wp2_with (go_at_call 52; refine (asked_dot node seq kind mode path A B n c d past _).mono ?_; rw [HV.out]; rintro e w3 ⟨rfl, hb3⟩)
        · go_ret
          exact ⟨ret_int (checks_bad _ _ _ _ _ _ _ (k := 0) (by omega) hv).symm, below_trans hb hb3⟩
        · go_roundw
          case rel => exact ⟨1, by omega, rfl, fun j hj => by
                        by_cases hj' : j = 0
                        · subst hj'; simpa [checks] using hv
                        · exact HK.out j (by omega), below_trans hb hb3, (hb3.block _ hsz).trans HCS.out⟩
          case measure => simp [intOf]
      · have hcx : wr.cell? ⟨w.heap.size + 1 + 1, 1, none⟩ = some (Value.func (Fn.func 53) #[.agg #[.int .i64 node, .int .i64 seq, .string path, .int .i64 kind, .int .i64 mode, .slice A n c, .slice B past.length d]] #[]) := by simp [World.cell?, hcs]
        clear hok hcs
        cases hv : (pathL path.data.toList)
        all_goals
          have HV := Lib.hid hv
          go_wp2_with (go_at_call 53; refine (asked_path node seq kind mode path A B n c d past _ hp).mono ?_; rw [HV.out]; rintro e w3 ⟨rfl, hb3⟩)
        · go_ret
          exact ⟨ret_int (checks_bad _ _ _ _ _ _ _ (k := 1) (by omega) hv).symm, below_trans hb hb3⟩
        · go_roundw
          case rel => exact ⟨2, by omega, rfl, fun j hj => by
                        by_cases hj' : j = 1
                        · subst hj'; simpa [checks] using hv
                        · exact HK.out j (by omega), below_trans hb hb3, (hb3.block _ hsz).trans HCS.out⟩
          case measure => simp [intOf]
      · have hcx : wr.cell? ⟨w.heap.size + 1 + 1, 2, none⟩ = some (Value.func (Fn.func 54) #[.agg #[.int .i64 node, .int .i64 seq, .string path, .int .i64 kind, .int .i64 mode, .slice A n c, .slice B past.length d]] #[]) := by simp [World.cell?, hcs]
        clear hok hcs
        cases hv : (effOk kind mode n)
        all_goals
          have HV := Lib.hid hv
          go_wp2_with (go_at_call 54; refine (asked_effect node seq kind mode path A B n c d past _ hn).mono ?_; rw [HV.out]; rintro e w3 ⟨rfl, hb3⟩)
        · go_ret
          exact ⟨ret_int (checks_bad _ _ _ _ _ _ _ (k := 2) (by omega) hv).symm, below_trans hb hb3⟩
        · go_roundw
          case rel => exact ⟨3, by omega, rfl, fun j hj => by
                        by_cases hj' : j = 2
                        · subst hj'; simpa [checks] using hv
                        · exact HK.out j (by omega), below_trans hb hb3, (hb3.block _ hsz).trans HCS.out⟩
          case measure => simp [intOf]
      · have hcx : wr.cell? ⟨w.heap.size + 1 + 1, 3, none⟩ = some (Value.func (Fn.func 55) #[.agg #[.int .i64 node, .int .i64 seq, .string path, .int .i64 kind, .int .i64 mode, .slice A n c, .slice B past.length d]] #[]) := by simp [World.cell?, hcs]
        clear hok hcs
        cases hv : (pastOk past)
        all_goals
          have HV := Lib.hid hv
          go_wp2_with (go_at_call 55; refine (asked_past node seq kind mode path A B n c d past _ (hx.below hb) hl).mono ?_; rw [HV.out]; rintro e w3 ⟨rfl, hb3⟩)
        · go_ret
          exact ⟨ret_int (checks_bad _ _ _ _ _ _ _ (k := 3) (by omega) hv).symm, below_trans hb hb3⟩
        · go_roundw
          case rel => exact ⟨4, by omega, rfl, fun j hj => by
                        by_cases hj' : j = 3
                        · subst hj'; simpa [checks] using hv
                        · exact HK.out j (by omega), below_trans hb hb3, (hb3.block _ hsz).trans HCS.out⟩
          case measure => simp [intOf]
      · have hcx : wr.cell? ⟨w.heap.size + 1 + 1, 4, none⟩ = some (Value.func (Fn.func 56) #[.agg #[.int .i64 node, .int .i64 seq, .string path, .int .i64 kind, .int .i64 mode, .slice A n c, .slice B past.length d]] #[]) := by simp [World.cell?, hcs]
        clear hok hcs
        cases hv : (decide (lastOf past node < seq))
        all_goals
          have HV := Lib.hid hv
          go_wp2_with (go_at_call 56; refine (asked_first node seq kind mode path A B n c d past _ (hx.below hb) hl).mono ?_; rw [HV.out]; rintro e w3 ⟨rfl, hb3⟩)
        · go_ret
          exact ⟨ret_int (checks_bad _ _ _ _ _ _ _ (k := 4) (by omega) hv).symm, below_trans hb hb3⟩
        · go_roundw
          case rel => exact ⟨5, by omega, rfl, fun j hj => by
                        by_cases hj' : j = 4
                        · subst hj'; simpa [checks] using hv
                        · exact HK.out j (by omega), below_trans hb hb3, (hb3.block _ hsz).trans HCS.out⟩
          case measure => simp [intOf]
end
end Go.Proofs.YtfdnobhedbglgaaGreatDoor
