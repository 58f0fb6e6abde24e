import Derived.Test.YtfdnobhedbglgaaGreatDoorPathPart
import Derived.Test.YtfdnobhedbglgaaGreatDoorPast1
namespace Go.Proofs.YtfdnobhedbglgaaGreatDoor
open Go Go.RowKit Go.Shelf
attribute [local go_sem] Oper.semAt_some
def pathL (l : List UInt8) : Bool := decide ((splitSlash l).length ≤ 6) && (splitSlash l).all partL
set_option maxRecDepth 100000 in
set_option maxHeartbeats 4000000 in
theorem path_Check (s : ByteArray) (hs : s.size ≤ 140737488351232) (w : World) : Calls Tryz.prog 77 #[.string s] w fun e w' => e = .returned (.int .i64 (errOf (pathL s.data.toList))) ∧ Below w.heap.size w w' := by
  refine (callsIn_wide (n := 3)).1 ?_
  refine callsIn_of_wp_marks Tryz.func77 rfl trivial ?_ rfl
  simp only [Tryz.ntmps77, List.size_toArray, List.length_cons, List.length_nil, Nat.reduceAdd, Nat.reduceSub, Array.replicate_succ, Array.replicate_zero, List.push_toArray, List.append_toArray, List.nil_append, List.cons_append]
  refine wpIn_wide.2 ?_
  go_wp2
  go_step3
  go_wp2
  go_step3
  go_wp2_with (go_at_call 95; refine (SplitSeq_any _ _).mono ?_; rintro e w' ⟨rfl, rfl⟩)
  have hb0 := (((((Below.refl w.heap.size w).alloc (Nat.le_refl _) (Obj.cells #[Value.int IntKind.i64 0] 3)).alloc (by simp) (Obj.cells #[Value.int IntKind.i64 0] 26)).alloc (by simp; omega) (Obj.cells #[Value.string s] 9)).alloc (by simp; omega) (Obj.cells #[Value.string { data := #[47] }] 9)).alloc (by simp; omega) (Obj.cells #[Value.int IntKind.i64 0] 3)
  refine (wpIn_wide (n := 3)).1 (RS.rangeFunc_state (F := Fence.wide) (n := 3) rfl (by omega) (gf := 109) (lb := #[.pointer (some ⟨w.heap.size + 1 + 1 + 1, 0, none⟩), .pointer (some ⟨w.heap.size + 1 + 1, 0, none⟩), .pointer (some ⟨w.heap.size + 1 + 1 + 2, 0, none⟩)]) rfl trivial (enters_of Tryz.func109 (by kernel_rfl) rfl)
    (T := fun r => r = w.heap.size + 1 + 1) (Kp := KeepL [w.heap.size + 1 + 1 + 1, w.heap.size + 1 + 1, w.heap.size + 1 + 1 + 2]) (encs := fun x : BS 140737488351232 => #[.string x.1])
    (S := fun xs => xs.map (fun x => x.1.data.toList) = splitSlash s.data.toList) (Sp := fun pre => pre.map (fun x => x.1.data.toList) <+: splitSlash s.data.toList) (N := (splitSlash s.data.toList).length)
    ?hseq KeepL.trans ?hKb ?hT (fun _ => rfl)
    (fun pre W => (Boxed W w.heap.size 3 (.int .i64 pre.length) ∧ Boxed W (w.heap.size + 1) 26 (.int .i64 0) ∧ pre.length ≤ 6 ∧ pre.all (fun x => partL x.1.data.toList) = true ∧ w.heap.size + 5 ≤ W.heap.size) ∧ Below w.heap.size w W)
    (fun c pre W => (c = .exit 0 ∧ Boxed W (w.heap.size + 1) 26 (.int .i64 2) ∧ (6 < pre.length ∨ pre.all (fun x => partL x.1.data.toList) = false)) ∧ Below w.heap.size w W)
    ?hI ?hIx ?hIT ?hIxT ?h0
    (fun x => { tmps := #[.string s, undef, .int .i64 0, .pointer (some ⟨w.heap.size, 0, none⟩), .pointer (some ⟨w.heap.size + 1, 0, none⟩), .string x.1, .string s, .func (.func 109) #[] #[.pointer (some ⟨w.heap.size + 1 + 1 + 1, 0, none⟩), .pointer (some ⟨w.heap.size + 1 + 1, 0, none⟩), .pointer (some ⟨w.heap.size + 1 + 1 + 2, 0, none⟩)], .string x.1, undef, undef, undef, undef, undef, undef, undef, undef, undef], defers := [] })
    ?assign ?body ?done ?stop)
  case hseq =>
    intro W1 hW1
    refine split_closure 2 (by omega) 140737488351232 _ _ _ (by omega) (by omega) s hs (by omega) W1 ?_ ?_ ?_
    all_goals exact (hW1.block _ (by simp; try omega)).trans (by simp only [alloc_get, World.size_alloc]; repeat (first | rw [if_pos trivial] | rw [if_neg (by omega)]))
  case hKb =>
    intro W l o o' hl h1 h2 h3
    refine ⟨by simp [World.putObj], fun b hb => World.putObj_heap_other ?_⟩
    simp at hb hl; omega
  case hT => rintro r rfl; simp
  case hI =>
    intro pre A B row ⟨⟨h1, h2, h3, h4, h6⟩, h5⟩ hg hr
    have hne : ∀ k, k < w.heap.size + 2 → some k ≠ row := fun k hk e => by have := (hr k e.symm).1; simp at this; omega
    exact ⟨⟨h1.kept hg (hne _ (by omega)), h2.kept hg (hne _ (by omega)), h3, h4, Nat.le_trans h6 hg.size⟩, h5.grown hg h5.size (fun k e => by have := (hr k e).1; simp at this; omega)⟩
  case hIx =>
    intro c pre A B row ⟨⟨h1, h2, h3⟩, h5⟩ hg hr
    have hne : ∀ k, k < w.heap.size + 2 → some k ≠ row := fun k hk e => by have := (hr k e.symm).1; simp at this; omega
    exact ⟨⟨h1, h2.kept hg (hne _ (by omega)), h3⟩, h5.grown hg h5.size (fun k e => by have := (hr k e).1; simp at this; omega)⟩
  case hIT =>
    intro pre A B r ⟨⟨h1, h2, h3, h4, h6⟩, h5⟩ hg hr
    exact ⟨⟨h1.kept hg (by simp; omega), h2.kept hg (by simp; omega), h3, h4, Nat.le_trans h6 hg.size⟩, h5.grown hg h5.size (fun k e => by cases e; omega)⟩
  case hIxT =>
    intro c pre A B r ⟨⟨h1, h2, h3⟩, h5⟩ hg hr
    exact ⟨⟨h1, h2.kept hg (by simp; omega), h3⟩, h5.grown hg h5.size (fun k e => by cases e; omega)⟩
  case h0 =>
    refine ⟨⟨?_, ?_, by simp, rfl, by simp⟩, hb0⟩
    all_goals simp only [Boxed, alloc_get, World.size_alloc]
    all_goals repeat (first | rw [if_pos trivial] | rw [if_neg (by omega)])
    all_goals rfl
  case assign =>
    intro l x W K hK
    gi_wp2
    exact hK
  case body =>
    rintro l pre x W ⟨⟨h1, h2, h3, h4, h6⟩, hB⟩ hN
    have c1 := h1.cell; have c2 := h2.cell; have f1 := h1.frozen; have f2 := h2.frozen
    have hle : w.heap.size ≤ W.heap.size := hB.size
    by_cases hn : pre.length = 6
    · have hlt : 6 < (pre.length : Int) + 1 := by omega
      gi_wp2
      refine ⟨((KeepsOthers.setCell _ _ _).trans (KeepsOthers.setCell _ _ _)).from _, ⟨rfl, (h2.other (by omega) _).set _, .inl (by simp [hn])⟩, (hB.setCell (p := ⟨w.heap.size, 0, none⟩) (Nat.le_refl _) _).setCell (p := ⟨w.heap.size + 1, 0, none⟩) (by simp) _⟩
    · have hlt : (pre.length : Int) + 1 ≤ 6 := by omega
      have b1 := h1.set (.int .i64 ((pre.length : Int) + 1))
      have b2 := h2.other (B' := w.heap.size) (by omega) (.int .i64 ((pre.length : Int) + 1))
      have kb : ∀ k, k ≠ w.heap.size → k < W.heap.size → (W.setCell ⟨w.heap.size, 0, none⟩ (.int .i64 ((pre.length : Int) + 1))).heap[k]? = W.heap[k]? := fun k h1 h2 => (grownBy_setCell' _ _ _).block k h2 (by simp [h1])
      have KB := Lib.hid kb
      clear kb
      cases hp : partL x.1.data.toList with
      | true =>
        gi_wp2_with (refine ⟨trivial, ?_⟩; gi_at_call 96; refine (CallsIn.inRound l (callsIn_wide.2 (path_part x.1 x.2 _))).mono ?_; rw [hp]; rintro e w' ⟨rfl, hb⟩; have b3 : Boxed w' (w.heap.size + 1) 26 (.int .i64 0) := (hb.block _ b2.lt).trans b2; have c3 := b3.cell; have f3 := b3.frozen)
        have hsz := hb.size
        rw [World.size_setCell] at hsz
        refine ⟨(KeepsOthers.setCell _ _ _).from _ |>.trans (KeepsFrom.of_grownBy (grown_of_below' hb none) (by simp)), ⟨?_, ?_⟩, ⟨⟨?_, b3, by simp; omega, by simp [h4, hp], by omega⟩, (hB.setCell (p := ⟨w.heap.size, 0, none⟩) (Nat.le_refl _) _).trans (hb.mono (by simp; omega))⟩⟩
        · omega
        · intro k hk
          have : k ≠ w.heap.size ∧ k < W.heap.size := by simp at hk; omega
          exact (hb.block k (by rw [World.size_setCell]; omega)).trans (KB.out k this.1 this.2)
        · rw [List.length_append]; exact (hb.block _ b1.lt).trans b1
      | false =>
        gi_wp2_with (refine ⟨trivial, ?_⟩; gi_at_call 96; refine (CallsIn.inRound l (callsIn_wide.2 (path_part x.1 x.2 _))).mono ?_; rw [hp]; rintro e w' ⟨rfl, hb⟩; have b3 : Boxed w' (w.heap.size + 1) 26 (.int .i64 0) := (hb.block _ b2.lt).trans b2; have c3 := b3.cell; have f3 := b3.frozen)
        refine ⟨(((KeepsOthers.setCell _ _ _).from _).trans (KeepsFrom.of_grownBy (grown_of_below' hb none) (by simp))).trans ((KeepsOthers.setCell _ _ _).from _), ⟨rfl, b3.set _, .inr (by simp [hp])⟩, ((hB.setCell (p := ⟨w.heap.size, 0, none⟩) (Nat.le_refl _) _).trans (hb.mono (by simp; omega))).setCell (p := ⟨w.heap.size + 1, 0, none⟩) (by simp) _⟩
  case done =>
    rintro D xs W hD hS ⟨⟨h1, h2, h3, h4, h6⟩, hB⟩ hK
    have c2 := h2.cell
    go_wp2
    rw [Exit.noGoto_ret]
    have hfin : errOf (pathL s.data.toList) = 0 := by
      have e1 : (splitSlash s.data.toList).length ≤ 6 := by rw [← hS]; simpa using h3
      have e2 : (splitSlash s.data.toList).all partL = true := by rw [← hS, List.all_map]; exact h4
      simp [errOf, pathL, e1, e2]
    refine ⟨by simp, .inl ⟨_, _, rfl, run_takeDeferred hK, ?_⟩⟩
    exact ⟨_, results_tmp rfl _ _ _, by rw [hfin]; rfl, hB.trans (belowK_b (w := w) (Nat.le_refl _) W D _ _ (by simp at hD; omega) hK rfl rfl)⟩
  case stop =>
    rintro D c pre W hD hS ⟨⟨rfl, h2, h3⟩, hB⟩ hK
    have c2 := h2.cell
    rw [wpIn_wide]
    go_wp2
    rw [Exit.noGoto_ret]
    have hfin : errOf (pathL s.data.toList) = 2 := by
      have : pathL s.data.toList = false := by
        obtain ⟨t, ht⟩ := hS
        rcases h3 with h | h
        · have : ¬ (splitSlash s.data.toList).length ≤ 6 := by rw [← ht]; simp; omega
          simp [pathL, this]
        · have : (splitSlash s.data.toList).all partL = false := by
            rw [← ht, List.all_append, List.all_map]
            have h' : (pre.all (partL ∘ fun x : BS 140737488351232 => x.1.data.toList)) = false := h
            rw [h']; rfl
          simp [pathL, this]
      rw [this]; rfl
    refine ⟨by simp, .inl ⟨_, _, rfl, run_takeDeferred hK, ?_⟩⟩
    exact ⟨_, results_tmp rfl _ _ _, by rw [hfin]; rfl, hB.trans (belowK_b (w := w) (Nat.le_refl _) W D _ _ (by simp at hD; omega) hK rfl rfl)⟩
end Go.Proofs.YtfdnobhedbglgaaGreatDoor
