import Derived.Test.YtfdnobhedbglgaaGreatDoorSpool6
namespace Go.Proofs.YtfdnobhedbglgaaGreatDoor
open Go Go.RowKit Go.Shelf
theorem ptrOf_erase (L : List Lk) (k j : Nat) : ptrOf (L.eraseIdx k) j = if j < k then ptrOf L j else ptrOf L (j + 1) := by
  unfold ptrOf
  rw [List.getElem?_eraseIdx]
  split <;> rfl
theorem link_less {W : World} {g : Nat} {L : List Lk} (h : LinksAt W g L) {v0 v1 v2 v4 v5 v6 : Value} (hh : W.heap[g]? = some (.cells #[v0, v1, v2, ptrOf L 0, v4, v5, v6] 68 (0, 0))) (k : Nat) (hk : k < L.length) :
    LinksAt (W.setCell (slotOf g L k) (ptrOf L (k + 1))) g (L.eraseIdx k) ∧ (W.setCell (slotOf g L k) (ptrOf L (k + 1))).heap[g]? = some (.cells #[v0, v1, v2, ptrOf (L.eraseIdx k) 0, v4, v5, v6] 68 (0, 0)) ∧ Below g W (W.setCell (slotOf g L k) (ptrOf L (k + 1))) := by
  have hmem : ∀ l : Lk, l ∈ L.eraseIdx k → l ∈ L := fun l hl => (List.eraseIdx_sublist L k).subset hl
  have hup : (L.eraseIdx k).Pairwise fun (x y : Lk) => x.b < y.b := h.up.sublist (List.eraseIdx_sublist L k)
  have hlt : ∀ {i j : Nat} (hi : i < L.length) (hj : j < L.length), i < j → L[i].b < L[j].b := fun hi hj hij => List.pairwise_iff_getElem.1 h.up _ _ hi hj hij
  cases k with
  | zero =>
    have e3 : slotOf g L 0 = ⟨g, 3, none⟩ := rfl
    rw [e3]
    refine ⟨⟨?_, ?_, hup, fun l hl => h.above l (hmem l hl)⟩, ?_, (Below.refl _ _).setCell (p := ⟨g, 3, none⟩) (Nat.le_refl _) _⟩
    · intro j l hl
      rw [List.getElem?_eraseIdx, if_neg (by omega)] at hl
      have hlk := h.link _ l hl
      have := h.above l (List.mem_of_getElem? hl)
      have e : ptrOf (L.eraseIdx 0) (j + 1) = ptrOf L (j + 1 + 1) := by rw [ptrOf_erase, if_neg (by omega)]
      rw [Below.heap_setCell _ _ _ _ (by simp; omega), hlk]
      simp only [lkCells, e]
    · intro l hl
      have ho := h.own l (hmem l hl)
      exact ⟨ho.1, ho.2.1.kept (grown_set _ _ _ _) (.inr (blk_ne hh ho.2.1 (by decide))), ho.2.2.kept (grown_set _ _ _ _) (.inr (blk_ne hh ho.2.2 (by decide)))⟩
    · rw [blk_set hh 3, ptrOf_erase]; rfl
  | succ m =>
    have hm : m < L.length := by omega
    have e3 : slotOf g L (m + 1) = ⟨L[m].b, 8, none⟩ := slotOf_succ hm
    rw [e3]
    have hlm := h.link m L[m] (List.getElem?_eq_getElem hm)
    have hbm := h.above L[m] (List.getElem_mem _)
    refine ⟨⟨?_, ?_, hup, fun l hl => h.above l (hmem l hl)⟩, ?_, (Below.refl _ _).setCell (p := ⟨L[m].b, 8, none⟩) (Nat.le_of_lt hbm) _⟩
    · intro j l hl
      rw [List.getElem?_eraseIdx] at hl
      by_cases hj : j < m + 1
      · rw [if_pos hj] at hl
        have hlk := h.link _ l hl
        obtain ⟨hjl, rfl⟩ := List.getElem?_eq_some_iff.1 hl
        by_cases hjm : j = m
        · subst hjm
          rw [blk_set hlk 8]
          simp [lkCells, ptrOf_erase]
        · have := hlt hjl hm (by omega)
          rw [Below.heap_setCell _ _ _ _ (by simp; omega), hlk]
          simp [lkCells, ptrOf_erase, show j < m by omega]
      · rw [if_neg hj] at hl
        have hlk := h.link _ l hl
        obtain ⟨hjl, rfl⟩ := List.getElem?_eq_some_iff.1 hl
        have := hlt hm hjl (by omega)
        rw [Below.heap_setCell _ _ _ _ (by simp; omega), hlk]
        simp [lkCells, ptrOf_erase, show ¬ j < m by omega]
    · intro l hl
      have ho := h.own l (hmem l hl)
      exact ⟨ho.1, ho.2.1.kept (grown_set _ _ _ _) (.inr (blk_ne hlm ho.2.1 (by decide))), ho.2.2.kept (grown_set _ _ _ _) (.inr (blk_ne hlm ho.2.2 (by decide)))⟩
    · rw [Below.heap_setCell _ _ _ _ (by simp; omega), hh, ptrOf_erase, if_pos (by omega)]
theorem links_slot {W : World} {g : Nat} {L : List Lk} (h : LinksAt W g L) {v0 v1 v2 v4 v5 v6 : Value} (hh : W.heap[g]? = some (.cells #[v0, v1, v2, ptrOf L 0, v4, v5, v6] 68 (0, 0))) (k : Nat) (hk : k ≤ L.length) :
    W.cell? (slotOf g L k) = some (ptrOf L k) ∧ W.frozen? (slotOf g L k) = false := by
  cases k with
  | zero => exact ⟨(blk_cell hh 3).trans rfl, blk_free hh 3⟩
  | succ m =>
    have hl := h.link m L[m] (List.getElem?_eq_getElem (by omega))
    rw [slotOf_succ (by omega)]
    exact ⟨(blk_cell hl 8).trans rfl, blk_free hl 8⟩
def DropPost (g : Nat) (bytes entries : Int) (L : List Lk) (used most : Int) (n s : Int) (w : World) (x : Ending) (w' : World) : Prop :=
  (Below g w w' ∧ FrameS g L w w') ∧ ((findAt L n s = L.length ∧ x = .returned (.int .i64 6) ∧ SpoolAt w' g bytes entries L used most) ∨
    ∃ l, L[findAt L n s]? = some l ∧ x = .returned (.int .i64 0) ∧ SpoolAt w' g bytes entries (L.eraseIdx (findAt L n s)) (used - l.e.size) most)
section
variable {w : World} {g : Nat} {bytes entries : Int} {L : List Lk} {used most : Int}
set_option maxHeartbeats 8000000 in
set_option maxRecDepth 100000 in
theorem spool_Drop (h : SpoolAt w g bytes entries L used most) (n s : Int) (hu : 0 ≤ used) (hu2 : used ≤ 10000000) (hl : (L.length : Int) ≤ 10000) :
    Calls Tryz.prog 9 #[.pointer (some ⟨g, 0, none⟩), .agg #[.int .i64 n, .int .i64 s]] w (DropPost g bytes entries L used most n s w) := by
  have hb0 := below_alloc (Below.refl _ w) (.cells #[.int .i64 n, .int .i64 s] 33)
  have q0 := World.alloc_heap_new w (.cells #[.int .i64 n, .int .i64 s] 33)
  have hz : (w.alloc (.cells #[.int .i64 n, .int .i64 s] 33)).heap.size = w.heap.size + 1 := by simp
  have HP := Lib.hid (And.intro hb0 (And.intro q0 hz))
  clear hb0 q0 hz
  go_enter Tryz.func9, Tryz.ntmps9
  go_wp2_with fail
  obtain ⟨hb0, q0, hz⟩ := HP.out
  clear HP
  generalize (w.alloc _) = W0 at *
  refine (spool_none (h.keep hb0)).mono ?_
  rintro e w1 ⟨rfl, hb1⟩
  have q1 := (hb1.block w.heap.size (by omega)).trans q0
  have hbw1 := below_trans hb0 hb1
  have c0 := blk_cell q1 0; have c1 := blk_cell q1 1
  simp at c0 c1
  clear hz
  go_wp2_with fail
  refine (spool_find (h.keep hbw1) n s).mono ?_
  obtain ⟨k, hk⟩ : ∃ k, findAt L n s = k := ⟨_, rfl⟩
  have hkl : k ≤ L.length := by rw [← hk]; exact List.findIdx_le_length
  rw [hk]
  have HK := Lib.hid hk
  clear hk
  obtain ⟨b, o, hbo⟩ := slotOf_plain g L k
  rw [hbo]
  have HBO := Lib.hid hbo
  clear hbo
  rintro e w3 ⟨rfl, hb3⟩
  have hbw3 := below_trans hbw1 hb3
  have hh3 := h.keep hbw3
  have s0 := hh3.slot k hkl
  rw [HBO.out] at s0
  clear c0 c1
  by_cases hex : k = L.length
  · rw [hex, ptrOf_end] at s0
    have HE := Lib.hid hex
    clear hex
    go_wp2_with fail
    go_ret
    exact ⟨⟨hbw3.mono (Nat.le_of_lt h.lt), .of_below hbw3⟩, .inl ⟨HK.out.trans HE.out, rfl, h.keep hbw3⟩⟩
  have hex : k < L.length := by omega
  rw [ptrOf_some hex] at s0
  have hlk := hh3.link k L[k] (List.getElem?_eq_getElem hex)
  have hls := (hh3.own L[k] (List.getElem_mem _)).1
  have hsz2 := Ev.size_le _ hls
  have c7 := blk_cell hlk 7; have c8 := blk_cell hlk 8
  have a4 := blk_cell hh3.head 4; have f4 := blk_free hh3.head 4
  simp [lkCells] at c7 c8 a4
  obtain ⟨lk, hlk2⟩ : ∃ lk, L[k] = lk := ⟨_, rfl⟩
  rw [hlk2] at c7 c8 s0 hsz2 hlk
  obtain ⟨sz, hsz⟩ : ∃ sz, lk.e.size = sz := ⟨_, rfl⟩
  rw [hsz] at c7 hsz2
  have HSZ := Lib.hid hsz; have HLK2 := Lib.hid hlk2; have HLK := Lib.hid hlk
  clear hsz hlk2 hlk hls
  have hA1 : -9223372036854775808 ≤ used + -(sz : Int) := by omega
  have hA2 : used + -(sz : Int) ≤ 9223372036854775807 := by omega
  have hwr := IntWalk.i64_in (-(sz : Int)) ⟨by omega, by omega⟩
  go_wp2_with fail
  go_region_with (first
    | (go_at_call 31; refine (atomic_Add g 4 used (-(sz : Int)) w3.drew a4 f4 hA1 hA2).mono ?_; rintro e w4 ⟨rfl, hw4⟩; have HW4 := Lib.hid hw4; clear hw4))
  clear hwr
  have hhe : w4.heap = (w3.setCell ⟨g, 4, none⟩ (.int .i64 (used + -(sz : Int)))).heap := by rw [HW4.out]; rfl
  have hb4 : Below g w3 w4 := by rw [HW4.out]; exact ((below_drewN (Below.refl g w3) 1).setCell (p := ⟨g, 4, none⟩) (Nat.le_refl _) _)
  have hL4 := (hh3.links.set hh3.head 4 (.int .i64 (used + -(sz : Int)))).of_heap hhe
  have hh4 := blk_set hh3.head 4 (.int .i64 (used + -(sz : Int)))
  rw [← hhe] at hh4
  simp only [List.setIfInBounds_toArray, List.set_cons_zero, List.set_cons_succ] at hh4
  have a5 := blk_cell hh4 5; have f5 := blk_free hh4 5
  simp at a5
  go_wp2_with fail
  refine (atomic_Add g 5 (L.length : Int) (-1) w4 a5 f5 (by omega) (by omega)).mono ?_
  rintro e w5 ⟨rfl, hw5⟩
  have hL5 := hL4.set hh4 5 (.int .i64 ((L.length : Int) + -1))
  have hh5 := blk_set hh4 5 (.int .i64 ((L.length : Int) + -1))
  have hb5 := hb4.setCell (p := ⟨g, 5, none⟩) (Nat.le_refl _) (.int .i64 ((L.length : Int) + -1))
  simp only [List.setIfInBounds_toArray, List.set_cons_zero, List.set_cons_succ] at hh5
  have hfr5 : FrameS g L w w4 → FrameS g L w ((w4.setCell ⟨g, 5, none⟩ (.int .i64 ((L.length : Int) + -1))).setCell (slotOf g L k) (ptrOf L (k + 1))) := fun hf => (hf.set 5 _).slot k hkl _
  rw [← hw5] at hL5 hh5 hb5 hfr5
  clear hw5
  have hless := link_less hL5 hh5 k hex
  obtain ⟨s5, f5'⟩ := links_slot hL5 hh5 k hkl
  have hlk5 := hL5.link k L[k] (List.getElem?_eq_getElem hex)
  have n5 := blk_cell hlk5 8
  simp [lkCells] at n5
  obtain ⟨p, hp⟩ : ∃ p, ptrOf L (k + 1) = .pointer p := ⟨_, rfl⟩
  rw [ptrOf_some hex, HBO.out, HLK2.out] at s5
  rw [HBO.out] at f5'
  rw [hp, HLK2.out] at n5
  rw [HBO.out, hp] at hless hfr5
  have HF5 := Lib.hid hfr5
  clear hfr5
  have HLESS := Lib.hid hless
  clear hless hp hlk5 a5 f5 a4 f4 c7 c8
  go_wp2_with fail
  go_ret
  obtain ⟨r1, r2, r3⟩ := HLESS.out
  have hu3 : Below g w w5 := (hbw3.mono (Nat.le_of_lt h.lt)).trans hb5
  have hfr4 : FrameS g L w w4 := ((FrameS.of_below (g := g) (L := L) hbw3).set 4 (.int .i64 (used + -(sz : Int)))).of_heap hhe
  have hfr := HF5.out hfr4
  refine ⟨⟨hu3.trans r3, hfr⟩, .inr ⟨L[k], by rw [HK.out]; exact List.getElem?_eq_getElem hex, rfl, ?_⟩⟩
  rw [HK.out, HLK2.out, HSZ.out]
  refine r1.spool ?_
  rw [r2, List.length_eraseIdx_of_lt hex]
  have e1 : ((L.length - 1 : Nat) : Int) = (L.length : Int) + -1 := by omega
  rw [e1, Int.sub_eq_add_neg]
end
end Go.Proofs.YtfdnobhedbglgaaGreatDoor
