import Derived.Test.YtfdnobhedbglgaaGreatDoorSpool4
namespace Go.Proofs.YtfdnobhedbglgaaGreatDoor
open Go Go.RowKit Go.Shelf
attribute [local go_sem] Oper.semAt_some
def isDot (n s : Int) (l : Lk) : Bool := l.e.node == n && l.e.seq == s
def findAt (L : List Lk) (n s : Int) : Nat := L.findIdx (isDot n s)
theorem fins_mem {n k : Nat} (h : k ≤ n) (x : Fin n) (hx : x.val < k) : x ∈ fins h := by
  unfold fins
  rw [List.mem_take_iff_getElem]
  exact ⟨x.val, by simp; omega, by simp⟩
theorem find_none {L : List Lk} {n s : Int} (h : ∀ (k : Nat) (l : Lk), L[k]? = some l → isDot n s l = false) : findAt L n s = L.length := by
  unfold findAt
  refine List.findIdx_eq_length.2 fun l hl => ?_
  obtain ⟨k, hk⟩ := List.getElem?_of_mem hl
  exact h k l hk
theorem find_some {L : List Lk} {n s : Int} {k : Nat} {l : Lk} (h : L[k]? = some l) (hd : isDot n s l = true) (hn : ∀ (j : Nat) (l : Lk), j < k → L[j]? = some l → isDot n s l = false) : findAt L n s = k := by
  obtain ⟨hk, rfl⟩ := List.getElem?_eq_some_iff.1 h
  unfold findAt
  exact (List.findIdx_eq hk).2 ⟨hd, fun j hj => hn j _ hj (List.getElem?_eq_getElem (by omega))⟩
theorem eql_dot (a b c d : Int) (w : World) : (binOp .eql 33 (.agg #[.int .i64 a, .int .i64 b]) (.agg #[.int .i64 c, .int .i64 d])).run Tryz.prog w = .ok (.bool (a == c && b == d)) w := by
  have hu := Tryz.underlying33
  simp only [binOp]
  simp [go_sem, Op.equal, Op.maxDepth, hu]
  by_cases h1 : a = c <;> by_cases h2 : b = d <;> simp [h1, h2]
theorem three_new (w : World) (a b c : Obj) : (((w.alloc a).alloc b).alloc c).heap.size = w.heap.size + 3 ∧ Below w.heap.size w (((w.alloc a).alloc b).alloc c) ∧ (((w.alloc a).alloc b).alloc c).heap[w.heap.size]? = some a ∧ (((w.alloc a).alloc b).alloc c).heap[w.heap.size + 1]? = some b ∧ (((w.alloc a).alloc b).alloc c).heap[w.heap.size + 1 + 1]? = some c :=
  ⟨by simp, below_alloc (below_alloc (below_alloc (Below.refl _ _) _) _) _, by rw [alloc_get, alloc_get, alloc_get]; simp; omega, by rw [alloc_get, alloc_get]; simp, by rw [alloc_get]; simp⟩
theorem SpoolAt.slot_block {W : World} {g : Nat} {bytes entries : Int} {L : List Lk} {used most : Int} (h : SpoolAt W g bytes entries L used most) {k : Nat} (hk : k ≤ L.length) : (slotOf g L k).block < W.heap.size := by
  cases k with
  | zero => exact h.lt
  | succ k => rw [slotOf_succ (by omega)]; exact h.blt (List.getElem?_eq_getElem (by omega))
theorem SpoolAt.ascend {W : World} {g : Nat} {bytes entries : Int} {L : List Lk} {used most : Int} (h : SpoolAt W g bytes entries L used most) (k : Nat) (hk : k < L.length) : (slotOf g L k).block < (slotOf g L (k + 1)).block ∧ (slotOf g L (k + 1)).block < W.heap.size := by
  refine ⟨?_, h.slot_block (by omega)⟩
  rw [slotOf_succ hk]
  cases k with
  | zero => exact h.above _ (List.getElem_mem _)
  | succ k => rw [slotOf_succ (by omega)]; exact List.pairwise_iff_getElem.1 h.up k (k + 1) (by omega) hk (by omega)
theorem SpoolAt.blocks_lt {W : World} {g : Nat} {bytes entries : Int} {L : List Lk} {used most : Int} (h : SpoolAt W g bytes entries L used most) : ∀ b ∈ spBlocks g L, b < W.heap.size := by
  intro b hb
  simp only [spBlocks, List.mem_cons, List.mem_map] at hb
  rcases hb with rfl | ⟨l, hl, rfl⟩
  · exact h.lt
  · obtain ⟨k, hk⟩ := List.getElem?_of_mem hl
    exact h.blt hk
section
variable {w : World} {g : Nat} {bytes entries : Int} {L : List Lk} {used most : Int}
set_option maxHeartbeats 4000000 in
set_option maxRecDepth 100000 in
theorem spool_find (h : SpoolAt w g bytes entries L used most) (n s : Int) : Calls Tryz.prog 30 #[.pointer (some ⟨g, 0, none⟩), .agg #[.int .i64 n, .int .i64 s]] w fun e w' => e = .returned (.pointer (some (slotOf g L (findAt L n s)))) ∧ Below w.heap.size w w' := by
  refine (callsIn_wide (n := 3)).1 ?_
  refine callsIn_of_wp_marks Tryz.func30 rfl trivial ?_ rfl
  simp only [Tryz.ntmps30, List.size_toArray, List.length_cons, List.length_nil, Nat.reduceAdd, Nat.reduceSub, Array.replicate_succ, Array.replicate_zero, List.push_toArray, List.append_toArray, List.nil_append, List.cons_append]
  refine wpIn_wide.2 ?_
  have hb2 : Below w.heap.size w ((w.alloc (.cells #[.int .i64 n, .int .i64 s] 33)).alloc (.cells #[.pointer none] 71)) := below_alloc (below_alloc (Below.refl _ _) _) _
  have HP := Lib.hid (three_new w (.cells #[.int .i64 n, .int .i64 s] 33) (.cells #[.pointer none] 71) (.cells #[.pointer (some ⟨g, 0, none⟩)] 25))
  go_wp2_with (go_at_call 48; refine (spool_links (h.keep hb2)).mono ?_; rintro e w' ⟨rfl, rfl⟩)
  obtain ⟨HS, HB0, HP0, HP1, HP2⟩ := HP.out
  clear HP
  generalize (((w.alloc _).alloc _).alloc _) = W0 at *
  have h0 := h.keep HB0
  have hgl := h.lt
  have hM : ∀ k, k < L.length → (slotOf g L k).block < (slotOf g L (k + 1)).block ∧ (slotOf g L (k + 1)).block < w.heap.size := h.ascend
  have hbl : ∀ b ∈ spBlocks g L, b < w.heap.size := h.blocks_lt
  refine (wpIn_wide (n := 3)).1 (RS.rangeFunc_state (F := Fence.wide) (n := 3) rfl (by omega) (gf := 75) (lb := #[.pointer (some ⟨w.heap.size + 1 + 1, 0, none⟩)]) rfl trivial (enters_of Tryz.func75 (by kernel_rfl) rfl)
    (T := fun _ => False) (Kp := KeepL ((w.heap.size + 1 + 1) :: spBlocks g L)) (encs := fun x : Fin (L.length + 1) => #[.pointer (some (slotOf g L x.val))])
    (S := fun xs => xs = fins (Nat.le_refl (L.length + 1))) (Sp := fun pre => ∃ k, ∃ h : k ≤ L.length + 1, pre = fins h) (N := L.length + 1)
    ?hseq KeepL.trans ?hKb ?hT (fun _ => rfl)
    (fun pre W => (Boxed W (w.heap.size + 1) 71 (.pointer (pre.getLast?.map fun x => slotOf g L x.val)) ∧ (∀ x ∈ pre, ∀ l, L[x.val]? = some l → isDot n s l = false)) ∧ (W.heap[w.heap.size]? = some (.cells #[.int .i64 n, .int .i64 s] 33 (0, 0)) ∧ Below w.heap.size w W))
    (fun c pre W => (c = .exit 0 ∧ ∃ (ini : List (Fin (L.length + 1))) (x : Fin (L.length + 1)) (l : Lk), pre = ini ++ [x] ∧ Boxed W (w.heap.size + 1) 71 (.pointer (some (slotOf g L x.val))) ∧ L[x.val]? = some l ∧ isDot n s l = true ∧ ∀ x ∈ ini, ∀ l, L[x.val]? = some l → isDot n s l = false) ∧ (W.heap[w.heap.size]? = some (.cells #[.int .i64 n, .int .i64 s] 33 (0, 0)) ∧ Below w.heap.size w W))
    ?hI ?hIx ?hIT ?hIxT ?h0
    (fun x => { tmps := #[.pointer (some ⟨g, 0, none⟩), .agg #[.int .i64 n, .int .i64 s], undef, .pointer (some ⟨w.heap.size, 0, none⟩), .pointer none, .pointer (some ⟨w.heap.size + 1, 0, none⟩), .pointer (some (slotOf g L x.val)), .pointer (some ⟨g, 0, none⟩), .func (.func 75) #[] #[.pointer (some ⟨w.heap.size + 1 + 1, 0, none⟩)], .pointer (some (slotOf g L x.val)), undef, undef, undef, undef, undef, undef, undef, undef, undef, undef, undef, undef, undef, undef, undef, undef, undef], defers := [] })
    ?assign ?body ?done ?stop)
  case hseq =>
    intro W1 hW1
    refine links_closure 2 (by omega) _ g L W1 ?_ ?_ w.heap.size hM
    · exact (hW1.block _ (by omega)).trans HP2
    · intro k hk
      exact (h0.keep hW1).slot k hk
  case hKb =>
    intro W l o o' hl h1 h2 h3
    refine ⟨by simp [World.putObj], fun b hb => World.putObj_heap_other ?_⟩
    simp only [List.mem_cons] at hb
    rcases hb with rfl | hb
    · omega
    · have := hbl b hb; omega
  case hT => exact fun r h => h.elim
  case hI =>
    intro pre A B row ⟨⟨h1, h2⟩, h3, h4⟩ hg hr
    have hne : ∀ k, k < w.heap.size + 3 → some k ≠ row := fun k hk e => by have := (hr k e.symm).1; omega
    exact ⟨⟨h1.kept hg (hne _ (by omega)), h2⟩, (hg.block _ (Array.getElem?_eq_some_iff.1 h3).1 (hne _ (by omega))).trans h3, h4.grown hg h4.size (fun k e => by have := (hr k e).1; omega)⟩
  case hIx =>
    intro c pre A B row ⟨⟨h1, ini, x, l, h2, h5, h6⟩, h3, h4⟩ hg hr
    have hne : ∀ k, k < w.heap.size + 3 → some k ≠ row := fun k hk e => by have := (hr k e.symm).1; omega
    exact ⟨⟨h1, ini, x, l, h2, h5.kept hg (hne _ (by omega)), h6⟩, (hg.block _ (Array.getElem?_eq_some_iff.1 h3).1 (hne _ (by omega))).trans h3, h4.grown hg h4.size (fun k e => by have := (hr k e).1; omega)⟩
  case hIT => exact fun _ _ _ _ _ _ h => h.elim
  case hIxT => exact fun _ _ _ _ _ _ _ h => h.elim
  case h0 => exact ⟨⟨HP1, fun x hx => by simp at hx⟩, HP0, HB0⟩
  case assign =>
    intro l x W K hK
    obtain ⟨b, o, hbo⟩ := slotOf_plain g L x.val
    rw [hbo] at hK ⊢
    clear hbo hM hbl h0 HP0 HP1 HP2 HB0 hb2 h HS hgl
    gi_wp2
    exact hK
  case body =>
    rintro l pre x W ⟨⟨h1, h2⟩, h3, h4⟩ hN
    have c1 := h1.cell; have f1 := h1.frozen
    have d0 := blk_cell h3 0; have d1 := blk_cell h3 1
    simp at d0 d1
    have hSW := h.keep h4
    have hsb0 := h.slot_block (k := x.val) (by omega)
    obtain ⟨b, o, hbo⟩ := slotOf_plain g L x.val
    have HBO := Lib.hid hbo
    rw [hbo] at hsb0 ⊢
    dsimp only at hsb0
    have hB4 := h4.setCell (p := ⟨w.heap.size + 1, 0, none⟩) (by simp) (.pointer (some ⟨b, o, none⟩))
    have hx1 := h1.set (.pointer (some ⟨b, o, none⟩))
    have hx3 := (grownBy_setCell' W (w.heap.size + 1) (.pointer (some ⟨b, o, none⟩))).block w.heap.size (Array.getElem?_eq_some_iff.1 h3).1 (by simp)
    have hko := (KeepsOthers.setCell W ⟨w.heap.size + 1, 0, none⟩ (.pointer (some ⟨b, o, none⟩))).from W0.heap.size
    have hx4 := hx3.trans h3
    have hkp : KeepL ((w.heap.size + 1 + 1) :: spBlocks g L) W (W.setCell ⟨w.heap.size + 1, 0, none⟩ (.pointer (some ⟨b, o, none⟩))) := by
      refine ⟨by simp, fun b hb => Below.heap_setCell _ _ _ _ ?_⟩
      simp only [List.mem_cons] at hb
      rcases hb with rfl | hb
      · simp
      · have := hbl b hb; simp; omega
    have HX := Lib.hid (And.intro hB4 (And.intro hx1 (And.intro hx4 (And.intro hko hkp))))
    clear hB4 hx1 hx3 hx4 hko hbo hkp
    gi_wp2
    obtain ⟨hB4, hx1, hx3, hko, hkp⟩ := HX.out
    clear HX c1 f1 d0 d1
    generalize hW2 : (W.setCell _ _) = W2 at *
    clear hW2 h4 h3 h1
    have hS2 := h.keep hB4
    have hs2 := hS2.slot x.val (by omega)
    rw [HBO.out] at hs2
    have d0 := blk_cell hx3 0; have d1 := blk_cell hx3 1
    simp at d0 d1
    have HK := Lib.hid (And.intro hB4 (And.intro hx1 (And.intro hx3 (And.intro hko (And.intro hkp h2)))))
    clear hkp hko h2 hx1
    by_cases hlt : x.val < L.length
    · have hl := List.getElem?_eq_getElem hlt
      have hk := hS2.link x.val _ hl
      rw [ptrOf_some hlt] at hs2
      obtain ⟨lk, hlk⟩ : ∃ lk, L[x.val] = lk := ⟨_, rfl⟩
      rw [hlk] at hk hs2 hl
      have e0 := blk_cell hk 0; have e1 := blk_cell hk 1
      simp [lkCells] at e0 e1
      have HL := Lib.hid hl
      clear hk hl hlk hlt hS2 hB4 hx3 hN h hM hbl h0 HP0 HP1 HP2 HB0 hb2 HS
      have heq := eql_dot lk.e.node lk.e.seq n s
      cases hd : isDot n s lk with
      | true =>
        have hd' : (lk.e.node == n && lk.e.seq == s) = true := hd
        rw [hd'] at heq
        have HD := Lib.hid hd
        clear hd hd'
        gi_region
        all_goals
          gi_wp2
          obtain ⟨hB4, hx1, hx3, hko, hkp, h2⟩ := HK.out
          refine ⟨hko.trans (KeepsFrom.of_grownBy (grown_of_below' (below_drew (Below.refl _ _)) none) (by simp)), ⟨rfl, pre, x, lk, rfl, by rw [HBO.out]; exact hx1, HL.out, HD.out, h2⟩, hx3, below_drew hB4⟩
      | false =>
        have hd' : (lk.e.node == n && lk.e.seq == s) = false := hd
        rw [hd'] at heq
        have HD := Lib.hid hd
        clear hd hd'
        gi_region
        all_goals
          gi_wp2
          obtain ⟨hB4, hx1, hx3, hko, hkp, h2⟩ := HK.out
          refine ⟨hko.trans (KeepsFrom.of_grownBy (grown_of_below' (below_drew (Below.refl _ _)) none) (by simp)), hkp, ⟨by simp [HBO.out]; exact hx1, ?_⟩, hx3, below_drew hB4⟩
          intro y hy l hl
          rcases List.mem_append.1 hy with hy | hy
          · exact h2 y hy l hl
          · obtain rfl : y = x := by simpa using hy
            rw [HL.out] at hl
            cases hl
            exact HD.out
    · have hxe : x.val = L.length := by omega
      have HL := Lib.hid (show L[x.val]? = none from by rw [hxe]; simp)
      rw [hxe, ptrOf_end] at hs2
      clear hxe hlt hS2 hB4 hx3 hN h hM hbl h0 HP0 HP1 HP2 HB0 hb2 HS
      gi_region
      all_goals
        gi_wp2
        obtain ⟨hB4, hx1, hx3, hko, hkp, h2⟩ := HK.out
        refine ⟨hko.trans (KeepsFrom.of_grownBy (grown_of_below' (below_drew (Below.refl _ _)) none) (by simp)), hkp, ⟨by simp [HBO.out]; exact hx1, ?_⟩, hx3, below_drew hB4⟩
        intro y hy l hl
        rcases List.mem_append.1 hy with hy | hy
        · exact h2 y hy l hl
        · obtain rfl : y = x := by simpa using hy
          rw [HL.out] at hl
          cases hl
  case done =>
    rintro D xs W hD hS ⟨⟨h1, h2⟩, h3, h4⟩ hK
    have hlast : (xs.getLast?.map fun x => slotOf g L x.val) = some (slotOf g L (findAt L n s)) := by
      rw [find_none (L := L) (n := n) (s := s) (fun k l hl => by
        have hk : k < L.length := (List.getElem?_eq_some_iff.1 hl).1
        exact h2 ⟨k, by omega⟩ (by rw [hS]; exact fins_mem _ _ (by simp; omega)) l hl), hS, fins_next (k := L.length) (by omega) (Nat.le_refl _)]
      simp
    rw [hlast] at h1
    have c2 := h1.cell
    obtain ⟨b, o, hbo⟩ := slotOf_plain g L (findAt L n s)
    rw [hbo] at c2
    have HBO := Lib.hid hbo
    clear hbo hlast h1
    go_wp2
    refine ⟨by simp, .inl ⟨_, _, rfl, run_takeDeferred hK, ?_⟩⟩
    exact ⟨_, results_tmp rfl _ _ _, by rw [HBO.out]; rfl, h4.trans (belowK_b (w := w) (Nat.le_refl _) W D _ _ (by omega) hK rfl rfl)⟩
  case stop =>
    rintro D c pre W hD ⟨k, hk, hS⟩ ⟨⟨rfl, ini, x, l, h2, h5, h6, h7, h8⟩, h3, h4⟩ hK
    have hfin : findAt L n s = x.val := by
      cases k with
      | zero => rw [h2] at hS; have := congrArg List.length hS; rw [fins_length] at this; simp at this
      | succ k =>
        rw [fins_next (by omega) hk, h2] at hS
        obtain ⟨e1, e2⟩ := List.append_inj' hS rfl
        cases e2
        exact find_some h6 h7 (fun j l hj hl => h8 ⟨j, by dsimp at hj; omega⟩ (by rw [e1]; exact fins_mem _ _ hj) l hl)
    have c2 := h5.cell
    obtain ⟨b, o, hbo⟩ := slotOf_plain g L x.val
    rw [hbo] at c2
    rw [← hfin] at hbo
    have HBO := Lib.hid hbo
    clear hbo hfin h5 h8
    rw [wpIn_wide]
    go_wp2
    refine ⟨by simp, .inl ⟨_, _, rfl, run_takeDeferred hK, ?_⟩⟩
    exact ⟨_, results_tmp rfl _ _ _, by rw [HBO.out]; rfl, h4.trans (belowK_b (w := w) (Nat.le_refl _) W D _ _ (by omega) hK rfl rfl)⟩
end
end Go.Proofs.YtfdnobhedbglgaaGreatDoor
