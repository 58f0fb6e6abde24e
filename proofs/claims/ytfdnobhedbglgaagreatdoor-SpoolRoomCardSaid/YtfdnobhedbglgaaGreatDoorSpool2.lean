import Derived.Test.YtfdnobhedbglgaaGreatDoorSpool1
namespace Go.Proofs.YtfdnobhedbglgaaGreatDoor
open Go Go.RowKit Go.Shelf
def Ev.ok (e : Ev) : Bool := evOkF e.node e.seq e.path.data.toList e.kind e.mode e.bytes.length e.past
def Ev.size (e : Ev) : Nat := evSize e.node e.seq e.path.data.toList e.kind e.mode e.bytes e.past
def Ev.short (e : Ev) : Prop := e.path.size ≤ 100 ∧ e.bytes.length ≤ 1200 ∧ e.past.length ≤ 100
/-- An event as a value, its lists where they lie. -/
abbrev Ev.val (e : Ev) (A : Option Addr) (c : Nat) (B : Option Addr) (d : Nat) : Value := evV e.node e.seq e.path e.kind e.mode (.slice A e.bytes.length c) (.slice B e.past.length d)
def EvAt (W : World) (e : Ev) (v : Value) : Prop := ∃ A c B d, v = e.val A c B d ∧ ByS W (.slice A e.bytes.length c) e.bytes ∧ SpS W (.slice B e.past.length d) e.past
def EvOwn (base : Nat) (W : World) (e : Ev) (v : Value) : Prop := ∃ A c B d, v = e.val A c B d ∧ W.ownsRow base 5 1 (.slice A e.bytes.length c) e.bytes.length (byCells e.bytes) ∧ W.ownsRow base 95 3 (.slice B e.past.length d) e.past.length (spCells e.past)
theorem EvOwn.at {base : Nat} {W : World} {e : Ev} {v : Value} (h : EvOwn base W e v) : EvAt W e v := by
  obtain ⟨A, c, B, d, h1, h2, h3⟩ := h
  exact ⟨A, c, B, d, h1, own_by h2, own_sp h3⟩
theorem EvAt.below {W W' : World} {e : Ev} {v : Value} (h : EvAt W e v) (hb : Below W.heap.size W W') : EvAt W' e v := by
  obtain ⟨A, c, B, d, h1, h2, h3⟩ := h
  exact ⟨A, c, B, d, h1, h2.below hb, h3.below hb⟩
theorem Ev.size_le (e : Ev) (h : e.short) : e.size ≤ 200000 := eventBs_length _ _ _ _ _ _ _ (by rw [size_list]; have := h.1; omega)
theorem ev_Size (e : Ev) (v : Value) (w : World) (hs : e.short) (hv : EvAt w e v) :
    Calls Tryz.prog 20 #[v] w fun x w' => x = .returned (.int .i64 (e.size : Int)) ∧ Below w.heap.size w w' := by
  obtain ⟨A, c, B, d, rfl, h2, h3⟩ := hv
  obtain ⟨s1, s2, s3⟩ := hs
  obtain ⟨A', c', e', -, -, h3⟩ := h3
  cases e'
  exact event_Size _ _ _ _ _ A B c d e.bytes e.past w (by omega) h2 (by omega) h3 (by omega)
theorem ev_Check (e : Ev) (v : Value) (w : World) (hs : e.short) (hv : EvAt w e v) :
    Calls Tryz.prog 36 #[v] w fun x w' => x = .returned (.int .i64 (errOf e.ok)) ∧ Below w.heap.size w w' := by
  obtain ⟨A, c, B, d, rfl, h2, h3⟩ := hv
  obtain ⟨s1, s2, s3⟩ := hs
  obtain ⟨A', c', e', -, -, h3⟩ := h3
  cases e'
  exact event_Check _ _ _ _ e.path A B e.bytes.length c d e.past w (by omega) (by omega) (spAt_of_row h3) (by omega)
def Set1 (g : Nat) (t : TypeId) (cs : Array Value) (W W' : World) : Prop := W'.heap[g]? = some (.cells cs t (0, 0)) ∧ Below g W W' ∧ ∀ (base : Nat) (ty : TypeId) (size n : Nat) (v : Value) (xs : List Value), t ≠ ty → W.ownsRow base ty size v n xs → W'.ownsRow base ty size v n xs
theorem Set1.of {W : World} {g : Nat} {t : TypeId} {cs : Array Value} (h : W.heap[g]? = some (.cells cs t (0, 0))) : Set1 g t cs W W := ⟨h, Below.refl _ _, fun _ _ _ _ _ _ _ h => h⟩
theorem Set1.set {W W' : World} {g : Nat} {t : TypeId} {cs : Array Value} (h : Set1 g t cs W W') (j : Nat) (a : Value) : Set1 g t (cs.setIfInBounds j a) W (W'.setCell ⟨g, j, none⟩ a) :=
  ⟨blk_set h.1 j a, h.2.1.setCell (p := ⟨g, j, none⟩) (Nat.le_refl _) a, fun base ty size n v xs hne ho => (h.2.2 base ty size n v xs hne ho).kept (grown_set W' g j a) (.inr (blk_ne h.1 (h.2.2 base ty size n v xs hne ho) hne))⟩
theorem set7 {W : World} {g : Nat} {x0 x1 x2 x3 x4 x5 x6 : Value} {t : TypeId} (h : W.heap[g]? = some (.cells #[x0, x1, x2, x3, x4, x5, x6] t (0, 0))) (a b c d e f i : Value) :
    Set1 g t #[a, b, c, d, e, f, i] W (((((((W.setCell ⟨g, 0, none⟩ a).setCell ⟨g, 1, none⟩ b).setCell ⟨g, 2, none⟩ c).setCell ⟨g, 3, none⟩ d).setCell ⟨g, 4, none⟩ e).setCell ⟨g, 5, none⟩ f).setCell ⟨g, 6, none⟩ i) := by
  have := (((((((Set1.of h).set 0 a).set 1 b).set 2 c).set 3 d).set 4 e).set 5 f).set 6 i
  simp only [List.setIfInBounds_toArray, List.set_cons_zero, List.set_cons_succ] at this
  exact this
theorem two_new (w : World) (a b : Obj) : ((w.alloc a).alloc b).heap.size = w.heap.size + 2 ∧ Below w.heap.size w ((w.alloc a).alloc b) ∧ ((w.alloc a).alloc b).heap[w.heap.size]? = some a ∧ ((w.alloc a).alloc b).heap[w.heap.size + 1]? = some b :=
  ⟨by simp, below_alloc (below_alloc (Below.refl _ _) _) _, by rw [alloc_get, alloc_get]; simp, by rw [alloc_get]; simp⟩
set_option maxHeartbeats 2000000 in
set_option maxRecDepth 100000 in
theorem spool_own (e : Ev) (v : Value) (w : World) (hs : e.short) (hv : EvAt w e v) :
    Calls Tryz.prog 37 #[v] w fun x w' => (∃ v', x = .returned v' ∧ EvOwn w.heap.size w' e v') ∧ Below w.heap.size w w' := by
  obtain ⟨A, c, B, d, rfl, h2, h3⟩ := hv
  obtain ⟨s1, s2, s3⟩ := hs
  obtain ⟨node, seq, path, kind, mode, xs, ps⟩ := e
  dsimp only at h2 h3 s1 s2 s3
  have HP := Lib.hid (two_new w (.cells #[.int .i64 node, .int .i64 seq, .string path, .int .i64 kind, .int .i64 mode, .slice A xs.length c, .slice B ps.length d] 39) (.cells #[.int .i64 0, .int .i64 0, .string { data := #[] }, .int .i64 0, .int .i64 0, .slice none 0 0, .slice none 0 0] 39))
  go_enter Tryz.func37, Tryz.ntmps37
  go_wp2_with fail
  obtain ⟨HS, HB0, HP0, HP1⟩ := HP.out
  clear HP
  generalize hW0 : ((w.alloc _).alloc _) = W0 at *
  clear hW0
  refine (Clone_bytes _ xs W0 (h2.below HB0) (by omega)).mono ?_
  rintro e w1 ⟨⟨v1, rfl, ho1⟩, hb1⟩
  obtain ⟨A1, c1, rfl, -⟩ := own_row ho1
  have q0 := (hb1.block w.heap.size (by omega)).trans HP0
  have q1 := (hb1.block (w.heap.size + 1) (by omega)).trans HP1
  have hs1 := hb1.size
  have f0 := blk_free q0 5; have d0 := blk_cell q0 5; have d1 := blk_cell q0 6
  simp at d0 d1
  have HS2 : w.heap.size + 2 ≤ W0.heap.size := by omega
  clear HS HP0 HP1
  have r0 := blk_set q0 5 (Value.slice A1 xs.length c1)
  have r1 : (w1.setCell ⟨w.heap.size, 5, none⟩ (Value.slice A1 xs.length c1)).heap[w.heap.size + 1]? = _ := (Below.heap_setCell _ _ _ _ (by simp)).trans q1
  have ho1' : (w1.setCell ⟨w.heap.size, 5, none⟩ (Value.slice A1 xs.length c1)).ownsRow W0.heap.size 5 1 (Value.slice A1 xs.length c1) xs.length (byCells xs) := ho1.kept (grown_set _ _ _ _) (.inr (blk_ne q0 ho1 (by decide)))
  have hB1 : Below w.heap.size w (w1.setCell ⟨w.heap.size, 5, none⟩ (Value.slice A1 xs.length c1)) := (below_trans HB0 hb1).setCell (p := ⟨w.heap.size, 5, none⟩) (Nat.le_refl _) _
  have hs1' : W0.heap.size ≤ (w1.setCell ⟨w.heap.size, 5, none⟩ (Value.slice A1 xs.length c1)).heap.size := by rw [World.size_setCell]; exact hs1
  have R0 := Lib.hid r0; have R1 := Lib.hid r1; have HO1 := Lib.hid ho1'; have HB1 := Lib.hid hB1; have HS1 := Lib.hid hs1'
  have d6 := blk_cell r0 6
  simp at d6
  clear r0 r1 ho1' hB1 hs1' q1 ho1
  go_wp2_with fail
  generalize (w1.setCell _ _) = W1 at *
  refine (Clone_spans _ ps W1 (h3.below HB1.out) (by omega)).mono ?_
  rintro e w2 ⟨⟨v2, rfl, ho2⟩, hb2⟩
  obtain ⟨A2, c2, rfl, -⟩ := own_row ho2
  have q0' := (hb2.block w.heap.size (by have := HS1.out; omega)).trans R0.out
  have q1' := (hb2.block (w.heap.size + 1) (by have := HS1.out; omega)).trans R1.out
  have hs2 := hb2.size
  simp only [List.setIfInBounds_toArray, List.set_cons_zero, List.set_cons_succ] at q0'
  have ho1b := own_below HO1.out (Below.mono hb2 (Nat.le_refl _))
  clear f0 d0 d1 d6
  have f6 := blk_free q0' 6; have d6 := blk_cell q0' 6
  simp at d6
  have r0 := blk_set q0' 6 (Value.slice A2 ps.length c2)
  simp only [List.setIfInBounds_toArray, List.set_cons_zero, List.set_cons_succ] at r0
  have r1 : (w2.setCell ⟨w.heap.size, 6, none⟩ (Value.slice A2 ps.length c2)).heap[w.heap.size + 1]? = _ := (Below.heap_setCell _ _ _ _ (by simp)).trans q1'
  have ho1' : (w2.setCell ⟨w.heap.size, 6, none⟩ (Value.slice A2 ps.length c2)).ownsRow W0.heap.size 5 1 (Value.slice A1 xs.length c1) xs.length (byCells xs) := ho1b.kept (grown_set _ _ _ _) (.inr (blk_ne q0' ho1b (by decide)))
  have ho2' : (w2.setCell ⟨w.heap.size, 6, none⟩ (Value.slice A2 ps.length c2)).ownsRow W1.heap.size 95 3 (Value.slice A2 ps.length c2) ps.length (spCells ps) := ho2.kept (grown_set _ _ _ _) (.inr (blk_ne q0' ho2 (by decide)))
  have hB2 : Below w.heap.size w (w2.setCell ⟨w.heap.size, 6, none⟩ (Value.slice A2 ps.length c2)) := (below_trans HB1.out hb2).setCell (p := ⟨w.heap.size, 6, none⟩) (Nat.le_refl _) _
  have HO1' := Lib.hid ho1'; have HO2' := Lib.hid ho2'; have HB2 := Lib.hid hB2
  have R0' := Lib.hid r0; have R1' := Lib.hid r1
  have g0 := blk_cell r0 0; have g1 := blk_cell r0 1; have g2 := blk_cell r0 2; have g3 := blk_cell r0 3; have g4 := blk_cell r0 4; have g5 := blk_cell r0 5; have g6 := blk_cell r0 6
  have k0 := blk_cell r1 0; have k1 := blk_cell r1 1; have k2 := blk_cell r1 2; have k3 := blk_cell r1 3; have k4 := blk_cell r1 4; have k5 := blk_cell r1 5; have k6 := blk_cell r1 6
  have l0 := blk_free r1 0; have l1 := blk_free r1 1; have l2 := blk_free r1 2; have l3 := blk_free r1 3; have l4 := blk_free r1 4; have l5 := blk_free r1 5; have l6 := blk_free r1 6
  simp at g0 g1 g2 g3 g4 g5 g6 k0 k1 k2 k3 k4 k5 k6
  clear r0 r1 ho1' ho2' hB2 q1' ho1b ho2 hb1 hb2 q0
  have hF := set7 R1'.out (.int .i64 node) (.int .i64 seq) (.string path) (.int .i64 kind) (.int .i64 mode) (.slice A1 xs.length c1) (.slice A2 ps.length c2)
  have HF := Lib.hid hF
  clear hF
  go_wp2_with fail
  obtain ⟨F1, F2, F3⟩ := HF.out
  clear HF
  generalize (World.setCell (World.setCell (World.setCell (World.setCell (World.setCell (World.setCell (World.setCell _ _ _) _ _) _ _) _ _) _ _) _ _) _ _) = WF at *
  have z0 := blk_cell F1 0; have z1 := blk_cell F1 1; have z2 := blk_cell F1 2; have z3 := blk_cell F1 3; have z4 := blk_cell F1 4; have z5 := blk_cell F1 5; have z6 := blk_cell F1 6
  simp at z0 z1 z2 z3 z4 z5 z6
  refine bodyPost_ret (v := .agg #[.int .i64 node, .int .i64 seq, .string path, .int .i64 kind, .int .i64 mode, .slice A1 xs.length c1, .slice A2 ps.length c2]) (by simp [results, Tryz.results37, go_sem, z0, z1, z2, z3, z4, z5, z6]) rfl ⟨⟨_, rfl, A1, c1, A2, c2, rfl, ?_, ?_⟩, ?_⟩
  · exact own_ge' (F3 _ _ _ _ _ _ (by decide) HO1'.out) _ HB0.size
  · exact own_ge' (F3 _ _ _ _ _ _ (by decide) HO2'.out) _ HB1.out.size
  · exact HB2.out.trans (F2.mono (by omega))
end Go.Proofs.YtfdnobhedbglgaaGreatDoor
