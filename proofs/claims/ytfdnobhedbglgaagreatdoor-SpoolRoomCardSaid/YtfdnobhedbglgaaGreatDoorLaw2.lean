import Derived.Test.YtfdnobhedbglgaaGreatDoorLaw1
namespace Go.Proofs.YtfdnobhedbglgaaGreatDoor
open Go Go.RowKit Go.Shelf
/-- Events in a row of the walk's own; their lists lie below B0, where nothing is written. -/
def WantAt (W : World) (B0 : Nat) (R : List Er) (v : Value) : Prop := W.ownsRow B0 39 7 v R.length (erCells R)
def isDotE (n s : Int) (r : Er) : Bool := r.e.node == n && r.e.seq == s
def dropR (n s : Int) (R : List Er) : List Er := R.filter fun r => !isDotE n s r
theorem neq_dot (a b c d : Int) (w : World) : (binOp .neq 33 (.agg #[.int .i64 a, .int .i64 b]) (.agg #[.int .i64 c, .int .i64 d])).run Tryz.prog w = .ok (.bool (!(a == c && b == d))) w := by
  have hu := Tryz.underlying33
  simp only [binOp]
  simp [go_sem, Op.equal, Op.maxDepth, hu]
  by_cases h1 : a = c <;> by_cases h2 : b = d <;> simp [h1, h2]
theorem erCells_get (R : List Er) : ∀ k (h : k < R.length) j u, (R[k].cells)[j]? = some u → (erCells R)[k * 7 + j]? = some u := by
  induction R with
  | nil => intro k h; simp at h
  | cons r l ih =>
    intro k h j u hu
    have hj : j < 7 := by have := (List.getElem?_eq_some_iff.1 hu).1; simpa [Er.cells] using this
    have e1 : erCells (r :: l) = r.cells ++ erCells l := by simp [erCells]
    have e2 : r.cells.length = 7 := by simp [Er.cells]
    rw [e1]
    cases k with
    | zero => rw [List.getElem?_append_left (by omega)]; simpa using hu
    | succ k =>
      rw [List.getElem?_append_right (by omega), e2]
      have e3 : (k + 1) * 7 + j - 7 = k * 7 + j := by omega
      rw [e3]
      exact ih k (by simpa using h) j u (by simpa using hu)
theorem new_row (W : World) (r : Er) (g : Nat) (hg : g = W.heap.size) : ∀ j u, r.cells[j]? = some u → (W.alloc (.cells #[.int .i64 r.e.node, .int .i64 r.e.seq, .string r.e.path, .int .i64 r.e.kind, .int .i64 r.e.mode, .slice r.A r.e.bytes.length r.c, .slice r.B r.e.past.length r.d] 39)).cell? ((⟨g, 0, none⟩ : Addr).add j) = some u := by
  subst hg
  intro j u hu
  rw [add_plain, blk_cell (World.alloc_heap_new W _), ← hu]
  simp [Er.cells]
set_option maxHeartbeats 4000000 in
set_option maxRecDepth 100000 in
theorem law_without (R : List Er) (v : Value) (B0 : Nat) (n s : Int) (w : World) (hB : B0 ≤ w.heap.size) (h : WantAt w B0 R v) (hn : R.length ≤ 100000) :
    Calls Tryz.prog 19 #[v, .agg #[.int .i64 n, .int .i64 s]] w fun e w' => (∃ v', e = .returned v' ∧ WantAt w' B0 (dropR n s R) v') ∧ Below w.heap.size w w' := by
  obtain ⟨A, c, rfl, -, -, hr⟩ := own_row h
  have q0 := World.alloc_heap_new w (.cells #[.int .i64 n, .int .i64 s] 33)
  have hb0 := below_alloc (Below.refl _ w) (.cells #[.int .i64 n, .int .i64 s] 33)
  obtain ⟨i0, hi, hz0, hz1, hz2⟩ := info_parts infoE
  have HP := Lib.hid (And.intro q0 hb0)
  clear q0 hb0
  go_enter Tryz.func19, Tryz.ntmps19
  go_wp2
  obtain ⟨q0, hb0⟩ := HP.out
  clear HP
  generalize (w.alloc _) = W0 at *
  go_loopw [5, 6] (fun out i wr => ∃ k : Nat, k ≤ R.length ∧ i = .int .i64 k ∧ wr.ownsRow W0.heap.size 39 7 out (dropR n s (R.take k)).length (erCells (dropR n s (R.take k))) ∧ Below W0.heap.size W0 wr) (fun _ i _ => R.length - (intOf i).toNat)
  case atStart => exact ⟨0, Nat.zero_le _, rfl, World.ownsRow_nil _ _ _ _, Below.refl _ _⟩
  case round =>
    obtain ⟨k, hk, rfl, ho, hbw⟩ := hrel
    by_cases hlt : k < R.length
    · have hrw := (hr.below hb0).below hbw
      obtain ⟨b, o, rfl, hc⟩ := hrw (by rw [erCells_length]; omega)
      have hc2 : ∀ j u, (R[k].cells)[j]? = some u → wr.cell? ⟨b, o + k * 7 + j, none⟩ = some u := fun j u hu => by
        rw [Nat.add_assoc]; exact hc _ u (erCells_get R k hlt j u hu)
      have HT := Lib.hid (List.take_succ_eq_append_getElem hlt)
      obtain ⟨r, hrk⟩ : ∃ r, R[k] = r := ⟨_, rfl⟩
      rw [hrk] at hc2
      have HR := Lib.hid hrk
      have x0 := hc2 0 _ rfl; have x1 := hc2 1 _ rfl; have x2 := hc2 2 _ rfl; have x3 := hc2 3 _ rfl; have x4 := hc2 4 _ rfl; have x5 := hc2 5 _ rfl; have x6 := hc2 6 _ rfl
      rw [Nat.add_zero] at x0
      have q1 := (hbw.block w.heap.size (Array.getElem?_eq_some_iff.1 q0).1).trans q0
      have d0 := blk_cell q1 0; have d1 := blk_cell q1 1
      simp at d0 d1
      have hb1 : (0 : Int) ≤ (k : Int) := by omega
      have hb2 : (k : Int) < (R.length : Int) := by omega
      have hbs := hbw.size
      obtain ⟨N, hN⟩ : ∃ N, (dropR n s (R.take k)).length = N := ⟨_, rfl⟩
      have hNle : N ≤ 100000 := by rw [← hN]; unfold dropR; exact Nat.le_trans (List.length_filter_le _ _) (by rw [List.length_take]; omega)
      rw [hN] at ho
      have HN := Lib.hid hN
      have hbase := own_base' ho
      obtain ⟨A2, c2, rfl, -⟩ := own_row ho
      have hne := neq_dot r.e.node r.e.seq n s
      have htn : ((k : Int)).toNat = k := by simp
      clear hc hc2 hr hN hrk
      cases hd : isDotE n s r with
      | true =>
        have hd' : (r.e.node == n && r.e.seq == s) = true := hd
        rw [hd'] at hne
        have HD := Lib.hid hd
        have E := Lib.hid (show dropR n s (R.take (k + 1)) = dropR n s (R.take k) from by rw [HT.out, HR.out]; simp [dropR, hd])
        have HO := Lib.hid ho
        clear hd hd' ho
        go_wp2
        go_quiet (fail)
        clear htn
        go_wp2
        exact ⟨⟨k + 1, by omega, by simp, by rw [E.out, HN.out]; exact HO.out, below_drewN hbw _⟩, by simp [intOf]; omega⟩
      | false =>
        have hd' : (r.e.node == n && r.e.seq == s) = false := hd
        rw [hd'] at hne
        have E := Lib.hid (show dropR n s (R.take (k + 1)) = dropR n s (R.take k) ++ [r] from by rw [HT.out, HR.out]; simp [dropR, hd])
        clear hd hd'
        have hex : ∀ (W : World), W.heap = wr.heap → (W.alloc (.cells #[.int .i64 r.e.node, .int .i64 r.e.seq, .string r.e.path, .int .i64 r.e.kind, .int .i64 r.e.mode, .slice r.A r.e.bytes.length r.c, .slice r.B r.e.past.length r.d] 39)).ownsRow W0.heap.size 39 7 (.slice A2 N c2) N (erCells (dropR n s (R.take k))) := fun W hW => by
          refine World.ownsRow.alloc ?_ _
          unfold World.ownsRow at ho ⊢
          rwa [hW]
        have HO := Lib.hid hex
        clear hex ho
        go_wp2
        go_quiet (fail)
        clear htn
        go_wp2_with (refine wpList_append_own _ rfl (.tmp 20) (.tmp 25) 47 rfl W0.heap.size 39 i0 _ 7 96 Tryz.underlying47 hi hz0 hz1 hz2 rfl (by decide) _ _ _ rfl (HO.out _ rfl) ⟨wr.heap.size, 0, none⟩ 1 1 r.cells rfl (by simp [Er.cells]) ?_ (by simp [Er.cells, Value.oneCell']) (by simp [maxLen]; omega) (by omega) ?_ ?_; (exact new_row _ r _ rfl); (simp; omega); intro v' w1 hown' hg _; obtain ⟨A4, c4, rfl, -⟩ := own_row hown')
        have e1 : erCells (dropR n s (R.take k) ++ [r]) = erCells (dropR n s (R.take k)) ++ r.cells := by simp [erCells]
        have e2 : (dropR n s (R.take k) ++ [r]).length = N + 1 := by rw [List.length_append, HN.out]; rfl
        exact ⟨⟨k + 1, by omega, by simp, by rw [E.out, e1, e2]; exact hown', (((below_drewN hbw nq).alloc (by simpa using hbs) _).grown hg (by simp; omega) (fun k e => hbase k e))⟩, by simp [intOf]; omega⟩
    · obtain rfl : k = R.length := by omega
      rw [List.take_length] at ho
      obtain ⟨N, hN⟩ : ∃ N, (dropR n s R).length = N := ⟨_, rfl⟩
      rw [hN] at ho
      have HN := Lib.hid hN
      obtain ⟨A2, c2, rfl, -⟩ := own_row ho
      clear hN
      go_wp2
      go_ret
      exact ⟨⟨_, rfl, by unfold WantAt; rw [HN.out]; exact own_ge' ho B0 (Nat.le_trans hB hb0.size)⟩, below_trans hb0 hbw⟩
end Go.Proofs.YtfdnobhedbglgaaGreatDoor
