import Derived.Test.YtfdnobhedbglgaaGreatDoorSpool5
namespace Go.Proofs.YtfdnobhedbglgaaGreatDoor
open Go Go.RowKit Go.Shelf
/-- What is no block of the spool stays as it was. -/
def FrameS (g : Nat) (L : List Lk) (W W' : World) : Prop := ∀ b, b < W.heap.size → b ∉ spBlocks g L → W'.heap[b]? = W.heap[b]?
theorem FrameS.of_below {g : Nat} {L : List Lk} {W W' : World} (h : Below W.heap.size W W') : FrameS g L W W' := fun b hb _ => h.block b hb
theorem FrameS.after {g : Nat} {L : List Lk} {w W W' : World} (h : Below w.heap.size w W) (k : FrameS g L W W') : FrameS g L w W' := fun b hb hn => (k b (Nat.lt_of_lt_of_le hb h.size) hn).trans (h.block b hb)
theorem FrameS.set {g : Nat} {L : List Lk} {w W : World} (h : FrameS g L w W) (j : Nat) (v : Value) : FrameS g L w (W.setCell ⟨g, j, none⟩ v) := fun b hb hn =>
  (Below.heap_setCell _ _ _ _ (by intro e; exact hn (by rw [show b = g from e]; simp [spBlocks]))).trans (h b hb hn)
theorem FrameS.of_heap {g : Nat} {L : List Lk} {w W W' : World} (h : FrameS g L w W) (e : W'.heap = W.heap) : FrameS g L w W' := fun b hb hn => by rw [e]; exact h b hb hn
theorem slot_mem' (g : Nat) (L : List Lk) (k : Nat) (hk : k ≤ L.length) : (slotOf g L k).block ∈ spBlocks g L := by
  cases k with
  | zero => simp [slotOf, spBlocks]
  | succ k => rw [slotOf_succ (by omega)]; simp only [spBlocks, List.mem_cons, List.mem_map]; exact .inr ⟨L[k], List.getElem_mem _, rfl⟩
theorem FrameS.slot {g : Nat} {L : List Lk} {w W : World} (h : FrameS g L w W) (k : Nat) (hk : k ≤ L.length) (v : Value) : FrameS g L w (W.setCell (slotOf g L k) v) := fun b hb hn =>
  (Below.heap_setCell _ _ _ _ (by intro e; exact hn (by rw [show b = (slotOf g L k).block from e]; exact slot_mem' g L k hk))).trans (h b hb hn)
structure LinksAt (W : World) (g : Nat) (L : List Lk) : Prop where
  link : ∀ (k : Nat) (l : Lk), L[k]? = some l → W.heap[l.b]? = some (.cells (lkCells L k l) 75 (0, 0))
  own : ∀ l : Lk, l ∈ L → l.e.short ∧ W.ownsRow g 5 1 (.slice l.A l.e.bytes.length l.c) l.e.bytes.length (byCells l.e.bytes) ∧ W.ownsRow g 95 3 (.slice l.B l.e.past.length l.d) l.e.past.length (spCells l.e.past)
  up : L.Pairwise fun (x y : Lk) => x.b < y.b
  above : ∀ l : Lk, l ∈ L → g < l.b
theorem SpoolAt.links {W : World} {g : Nat} {bytes entries : Int} {L : List Lk} {used most : Int} (h : SpoolAt W g bytes entries L used most) : LinksAt W g L := ⟨h.link, h.own, h.up, h.above⟩
theorem LinksAt.spool {W : World} {g : Nat} {bytes entries : Int} {L : List Lk} {used most : Int} (h : LinksAt W g L) (hh : W.heap[g]? = some (.cells #[.bool true, .int .i64 bytes, .int .i64 entries, ptrOf L 0, .int .i64 used, .int .i64 (L.length : Int), .int .i64 most] 68 (0, 0))) : SpoolAt W g bytes entries L used most := ⟨hh, h.link, h.own, h.up, h.above⟩
theorem LinksAt.set {W : World} {g : Nat} {L : List Lk} (h : LinksAt W g L) {cs : Array Value} (hh : W.heap[g]? = some (.cells cs 68 (0, 0))) (j : Nat) (v : Value) : LinksAt (W.setCell ⟨g, j, none⟩ v) g L :=
  ⟨fun k l hl => (Below.heap_setCell _ _ _ _ (by have := h.above l (List.mem_of_getElem? hl); simp; omega)).trans (h.link k l hl),
   fun l hl => ⟨(h.own l hl).1, (h.own l hl).2.1.kept (grown_set _ _ _ _) (.inr (blk_ne hh (h.own l hl).2.1 (by decide))), (h.own l hl).2.2.kept (grown_set _ _ _ _) (.inr (blk_ne hh (h.own l hl).2.2 (by decide)))⟩, h.up, h.above⟩
theorem LinksAt.of_heap {W W' : World} {g : Nat} {L : List Lk} (h : LinksAt W g L) (hh : W'.heap = W.heap) : LinksAt W' g L := by
  refine ⟨fun k l hl => by rw [hh]; exact h.link k l hl, fun l hl => ⟨(h.own l hl).1, ?_, ?_⟩, h.up, h.above⟩
  · have := (h.own l hl).2.1
    unfold World.ownsRow at this ⊢
    rwa [hh]
  · have := (h.own l hl).2.2
    unfold World.ownsRow at this ⊢
    rwa [hh]
theorem SpoolAt.slot_free {W : World} {g : Nat} {bytes entries : Int} {L : List Lk} {used most : Int} (h : SpoolAt W g bytes entries L used most) (k : Nat) (hk : k ≤ L.length) : W.frozen? (slotOf g L k) = false := by
  cases k with
  | zero => exact blk_free h.head 3
  | succ k => rw [slotOf_succ (by omega)]; exact blk_free (h.link k _ (List.getElem?_eq_getElem (by omega))) 8
theorem ptrOf_append {L : List Lk} {l : Lk} {k : Nat} (h : k < L.length) : ptrOf (L ++ [l]) k = ptrOf L k := by simp [ptrOf, List.getElem?_append_left h]
theorem ptrOf_last (L : List Lk) (l : Lk) : ptrOf (L ++ [l]) L.length = .pointer (some ⟨l.b, 0, none⟩) := by simp [ptrOf]
/-- A link more, at the end. -/
theorem link_more {W : World} {g : Nat} {bytes entries : Int} {L : List Lk} {used most : Int} (h : SpoolAt W g bytes entries L used most) (l : Lk) (hlb : l.b = W.heap.size) (hs : l.e.short)
    (h1 : W.ownsRow g 5 1 (.slice l.A l.e.bytes.length l.c) l.e.bytes.length (byCells l.e.bytes)) (h2 : W.ownsRow g 95 3 (.slice l.B l.e.past.length l.d) l.e.past.length (spCells l.e.past)) :
    LinksAt ((W.alloc (.cells (lkCells [l] 0 l) 75)).setCell (slotOf g L L.length) (.pointer (some ⟨l.b, 0, none⟩))) g (L ++ [l]) ∧
    ((W.alloc (.cells (lkCells [l] 0 l) 75)).setCell (slotOf g L L.length) (.pointer (some ⟨l.b, 0, none⟩))).heap[g]? = some (.cells #[.bool true, .int .i64 bytes, .int .i64 entries, ptrOf (L ++ [l]) 0, .int .i64 used, .int .i64 (L.length : Int), .int .i64 most] 68 (0, 0)) ∧
    Below g W ((W.alloc (.cells (lkCells [l] 0 l) 75)).setCell (slotOf g L L.length) (.pointer (some ⟨l.b, 0, none⟩))) := by
  have ha : Below W.heap.size W (W.alloc (.cells (lkCells [l] 0 l) 75)) := below_alloc (Below.refl _ _) _
  have hk := h.keep ha
  have hn := World.alloc_heap_new W (.cells (lkCells [l] 0 l) 75)
  rw [← hlb] at hn
  have o1 := own_below h1 ha
  have o2 := own_below h2 ha
  generalize (W.alloc (.cells (lkCells [l] 0 l) 75)) = Wa at *
  have hup : (L ++ [l]).Pairwise fun (x y : Lk) => x.b < y.b := by
    rw [List.pairwise_append]
    refine ⟨h.up, List.pairwise_singleton _ _, fun x hx y hy => ?_⟩
    obtain rfl : y = l := by simpa using hy
    obtain ⟨k, hkx⟩ := List.getElem?_of_mem hx
    have := h.blt hkx
    omega
  have hab : ∀ x : Lk, x ∈ L ++ [l] → g < x.b := by
    intro x hx
    rcases List.mem_append.1 hx with hx | hx
    · exact h.above x hx
    · obtain rfl : x = l := by simpa using hx
      have := h.lt; omega
  have hlc : lkCells (L ++ [l]) L.length l = lkCells [l] 0 l := by simp [lkCells, ptrOf]
  have hgl := h.lt
  by_cases h0 : L.length = 0
  · obtain rfl : L = [] := List.eq_nil_of_length_eq_zero h0
    have e3 : slotOf g [] ([] : List Lk).length = ⟨g, 3, none⟩ := rfl
    rw [e3]
    refine ⟨⟨?_, ?_, hup, hab⟩, ?_, ?_⟩
    · intro k l' hl'
      have hk0 : k = 0 := by
        have := (List.getElem?_eq_some_iff.1 hl').1
        simp at this; omega
      subst hk0
      obtain rfl : l = l' := by simpa using hl'
      exact (Below.heap_setCell _ _ _ _ (by simp; omega)).trans hn
    · intro x hx
      obtain rfl : x = l := by simpa using hx
      exact ⟨hs, o1.kept (grown_set _ _ _ _) (.inr (blk_ne hk.head o1 (by decide))), o2.kept (grown_set _ _ _ _) (.inr (blk_ne hk.head o2 (by decide)))⟩
    · rw [blk_set hk.head 3]; rfl
    · exact (ha.mono (Nat.le_of_lt hgl)).setCell (p := ⟨g, 3, none⟩) (Nat.le_refl _) _
  · obtain ⟨m, hm⟩ : ∃ m, L.length = m + 1 := ⟨L.length - 1, by omega⟩
    have hml : m < L.length := by omega
    have hlm := hk.link m L[m] (List.getElem?_eq_getElem hml)
    have e3 : slotOf g L L.length = ⟨L[m].b, 8, none⟩ := by rw [hm, slotOf_succ hml]
    rw [e3]
    have hbm := hk.above L[m] (List.getElem_mem _)
    have hbl : L[m].b < l.b := by rw [hlb]; exact h.blt (List.getElem?_eq_getElem hml)
    refine ⟨⟨?_, ?_, hup, hab⟩, ?_, ?_⟩
    · intro k l' hl'
      have hkl : k < L.length + 1 := by have := (List.getElem?_eq_some_iff.1 hl').1; simpa using this
      by_cases hk2 : k = L.length
      · subst hk2
        obtain rfl : l = l' := by simpa using hl'
        rw [hlc]
        exact (Below.heap_setCell _ _ _ _ (by simp; omega)).trans hn
      · have hkl2 : k < L.length := by omega
        rw [List.getElem?_append_left hkl2] at hl'
        have hlk := hk.link k l' hl'
        by_cases hkm : k = m
        · subst hkm
          obtain rfl : L[k] = l' := by rw [List.getElem?_eq_getElem hml] at hl'; exact Option.some.inj hl'
          rw [blk_set hlk 8]
          have : ptrOf (L ++ [l]) (k + 1) = .pointer (some ⟨l.b, 0, none⟩) := by rw [← hm]; exact ptrOf_last L l
          simp [lkCells, this]
        · have hne : l'.b < L[m].b := by
            obtain ⟨hkk, rfl⟩ := List.getElem?_eq_some_iff.1 hl'
            exact List.pairwise_iff_getElem.1 h.up k m hkl2 hml (by omega)
          rw [Below.heap_setCell _ _ _ _ (by simp; omega), hlk]
          simp [lkCells, ptrOf_append (l := l) (show k + 1 < L.length by omega)]
    · intro x hx
      rcases List.mem_append.1 hx with hx | hx
      · exact ⟨(hk.own x hx).1, (hk.own x hx).2.1.kept (grown_set _ _ _ _) (.inr (blk_ne hlm (hk.own x hx).2.1 (by decide))), (hk.own x hx).2.2.kept (grown_set _ _ _ _) (.inr (blk_ne hlm (hk.own x hx).2.2 (by decide)))⟩
      · obtain rfl : x = l := by simpa using hx
        exact ⟨hs, o1.kept (grown_set _ _ _ _) (.inr (blk_ne hlm o1 (by decide))), o2.kept (grown_set _ _ _ _) (.inr (blk_ne hlm o2 (by decide)))⟩
    · rw [Below.heap_setCell _ _ _ _ (by simp; omega), hk.head, ptrOf_append (by omega)]
    · exact (ha.mono (Nat.le_of_lt hgl)).setCell (p := ⟨L[m].b, 8, none⟩) (Nat.le_of_lt hbm) _
end Go.Proofs.YtfdnobhedbglgaaGreatDoor
