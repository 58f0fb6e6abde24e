import Derived.Test.YtfdnobhedbglgaaGreatDoorSpool5b
namespace Go.Proofs.YtfdnobhedbglgaaGreatDoor
open Go Go.RowKit Go.Shelf
def putRes (bytes entries : Int) (L : List Lk) (used : Int) (e : Ev) : Int :=
  if e.ok = false then 2 else if bytes < (e.size : Int) ∨ entries = 0 then 3 else if findAt L e.node e.seq < L.length then 7 else if bytes < used + (e.size : Int) ∨ entries < (L.length : Int) + 1 then 8 else 0
def PutPost (g : Nat) (bytes entries : Int) (L : List Lk) (used most : Int) (e : Ev) (w : World) (x : Ending) (w' : World) : Prop :=
  x = .returned (.int .i64 (putRes bytes entries L used e)) ∧ (Below g w w' ∧ FrameS g L w w') ∧
      (putRes bytes entries L used e ≠ 0 → SpoolAt w' g bytes entries L used most) ∧ (putRes bytes entries L used e = 0 → ∃ l : Lk, l.e = e ∧ SpoolAt w' g bytes entries (L ++ [l]) (used + e.size) (if used + e.size ≤ most then most else used + e.size))
section
variable {w : World} {g : Nat} {bytes entries : Int} {L : List Lk} {used most : Int}
set_option maxHeartbeats 8000000 in
set_option maxRecDepth 100000 in
theorem spool_Put (h : SpoolAt w g bytes entries L used most) (e : Ev) (v : Value) (hs : e.short) (hv : EvAt w e v) (hu : 0 ≤ used) (hu2 : used ≤ bytes) (hb : bytes ≤ 10000000) (hl : (L.length : Int) ≤ entries) (he : entries ≤ 10000) :
    Calls Tryz.prog 12 #[.pointer (some ⟨g, 0, none⟩), v] w (PutPost g bytes entries L used most e w) := by
  obtain ⟨A, c, B, d, rfl, hx, hp⟩ := hv
  obtain ⟨node, seq, path, kind, mode, xs, ps⟩ := e
  dsimp only at hx hp
  have hv : EvAt w ⟨node, seq, path, kind, mode, xs, ps⟩ (Ev.val ⟨node, seq, path, kind, mode, xs, ps⟩ A c B d) := ⟨A, c, B, d, rfl, hx, hp⟩
  have hb0 := below_alloc (Below.refl _ w) (.cells #[.int .i64 node, .int .i64 seq, .string path, .int .i64 kind, .int .i64 mode, .slice A xs.length c, .slice B ps.length d] 39)
  have q0 := World.alloc_heap_new w (.cells #[.int .i64 node, .int .i64 seq, .string path, .int .i64 kind, .int .i64 mode, .slice A xs.length c, .slice B ps.length d] 39)
  have hz : (w.alloc (.cells #[.int .i64 node, .int .i64 seq, .string path, .int .i64 kind, .int .i64 mode, .slice A xs.length c, .slice B ps.length d] 39)).heap.size = w.heap.size + 1 := by simp
  have HP := Lib.hid (And.intro hb0 (And.intro q0 hz))
  clear hb0 q0 hz
  go_enter Tryz.func12, Tryz.ntmps12
  go_wp2_with fail
  obtain ⟨hb0, q0, hz⟩ := HP.out
  clear HP
  generalize (w.alloc _) = W0 at *
  have fin : ∀ (r : Int) (w' : World), Hid (putRes bytes entries L used ⟨node, seq, path, kind, mode, xs, ps⟩ = r) → r ≠ 0 → Below w.heap.size w w' → PutPost g bytes entries L used most ⟨node, seq, path, kind, mode, xs, ps⟩ w (.returned (.int .i64 r)) w' := by
    intro r w' hr h0 hb
    have hr' := hr.out
    exact ⟨by rw [hr'], ⟨hb.mono (Nat.le_of_lt h.lt), .of_below hb⟩, fun _ => h.keep hb, fun h2 => absurd (hr'.symm.trans h2) h0⟩
  have FIN := Lib.hid fin
  clear fin
  refine (spool_none (h.keep hb0)).mono ?_
  rintro e w1 ⟨rfl, hb1⟩
  have q1 := (hb1.block w.heap.size (by omega)).trans q0
  have hbw1 := below_trans hb0 hb1
  have c0 := blk_cell q1 0; have c1 := blk_cell q1 1; have c2 := blk_cell q1 2; have c3 := blk_cell q1 3; have c4 := blk_cell q1 4; have c5 := blk_cell q1 5; have c6 := blk_cell q1 6
  simp at c0 c1 c2 c3 c4 c5 c6
  clear hz
  obtain ⟨sz, hsz⟩ : ∃ sz, Ev.size ⟨node, seq, path, kind, mode, xs, ps⟩ = sz := ⟨_, rfl⟩
  have hsz2 := Ev.size_le _ hs
  rw [hsz] at hsz2
  go_wp2_with fail
  refine (ev_Size _ _ w1 hs (hv.below hbw1)).mono ?_
  rw [hsz]
  rintro e w2 ⟨rfl, hb2⟩
  have HSZ := Lib.hid hsz
  clear hsz
  have q2 := (hb2.block w.heap.size (by have := hb1.size; have := (Array.getElem?_eq_some_iff.1 q1).1; omega)).trans q1
  have hbw2 := below_trans hbw1 hb2
  clear c0 c1 c2 c3 c4 c5 c6
  have c0 := blk_cell q2 0; have c1 := blk_cell q2 1
  simp at c0 c1
  go_wp2_with fail
  refine (spool_find (h.keep hbw2) node seq).mono ?_
  obtain ⟨k, hk⟩ : ∃ k, findAt L node seq = k := ⟨_, rfl⟩
  have hkl : k ≤ L.length := by rw [← hk]; exact List.findIdx_le_length
  rw [hk]
  have HK := Lib.hid hk
  clear hk
  obtain ⟨b, o, hbo⟩ := slotOf_plain g L k
  rw [hbo]
  have HBO := Lib.hid hbo
  clear hbo
  rintro e w3 ⟨rfl, hb3⟩
  have q3 := (hb3.block w.heap.size (by have := (Array.getElem?_eq_some_iff.1 q2).1; omega)).trans q2
  have hbw3 := below_trans hbw2 hb3
  clear c0 c1
  go_wp2_with fail
  refine (spool_Used (h.keep hbw3)).mono ?_
  rintro e w4 ⟨rfl, hb4⟩
  have q4 := (hb4.block w.heap.size (by have := (Array.getElem?_eq_some_iff.1 q3).1; omega)).trans q3
  have hbw4 := below_trans hbw3 hb4
  have c0 := blk_cell q4 0; have c1 := blk_cell q4 1; have c2 := blk_cell q4 2; have c3 := blk_cell q4 3; have c4 := blk_cell q4 4; have c5 := blk_cell q4 5; have c6 := blk_cell q4 6
  simp at c0 c1 c2 c3 c4 c5 c6
  go_wp2_with fail
  refine (ev_Check _ _ w4 hs (hv.below hbw4)).mono ?_
  cases hok : Ev.ok ⟨node, seq, path, kind, mode, xs, ps⟩ with
  | false =>
    have HOK := Lib.hid hok
    clear hok
    rintro e w5 ⟨rfl, hb5⟩
    have hbw5 := below_trans hbw4 hb5
    have hr : putRes bytes entries L used ⟨node, seq, path, kind, mode, xs, ps⟩ = 2 := by unfold putRes; rw [if_pos HOK.out]
    have HR := Lib.hid hr
    clear hr
    rw [show errOf false = 2 from rfl]
    go_wp2_with fail
    go_ret
    exact FIN.out _ _ HR (by decide) hbw5
  | true =>
    have HOK := Lib.hid hok
    clear hok
    rintro e w5 ⟨rfl, hb5⟩
    have hbw5 := below_trans hbw4 hb5
    rw [show errOf true = 0 from rfl]
    have hh5 := (h.keep hbw5)
    have q5 := (hb5.block w.heap.size (by have := (Array.getElem?_eq_some_iff.1 q4).1; omega)).trans q4
    clear c0 c1 c2 c3 c4 c5 c6
    have c1 := blk_cell hh5.head 1; have c2 := blk_cell hh5.head 2
    have s0 := hh5.slot k hkl
    rw [HBO.out] at s0
    simp at c1 c2
    by_cases hlong : bytes < (sz : Int)
    · have HR := Lib.hid (show putRes bytes entries L used ⟨node, seq, path, kind, mode, xs, ps⟩ = 3 from by unfold putRes; rw [if_neg (by rw [HOK.out]; simp), if_pos (by rw [HSZ.out]; exact .inl hlong)])
      go_wp2_with fail
      go_ret
      exact FIN.out _ _ HR (by decide) hbw5
    by_cases hz0 : entries = 0
    · have HR := Lib.hid (show putRes bytes entries L used ⟨node, seq, path, kind, mode, xs, ps⟩ = 3 from by unfold putRes; rw [if_neg (by rw [HOK.out]; simp), if_pos (.inr hz0)])
      have HZ := Lib.hid hz0
      have hzb : (entries == 0) = true := by simp [hz0]
      clear hz0
      go_wp2_with fail
      go_ret
      exact FIN.out _ _ HR (by decide) hbw5
    have hzb : (entries == 0) = false := by simp [hz0]
    by_cases hex : k < L.length
    · have HR := Lib.hid (show putRes bytes entries L used ⟨node, seq, path, kind, mode, xs, ps⟩ = 7 from by unfold putRes; rw [if_neg (by rw [HOK.out]; simp), if_neg (by rw [HSZ.out]; omega), if_pos (by rw [HK.out]; exact hex)])
      rw [ptrOf_some hex] at s0
      go_wp2_with fail
      go_ret
      exact FIN.out _ _ HR (by decide) hbw5
    obtain rfl : k = L.length := by omega
    rw [ptrOf_end] at s0
    by_cases hf1 : bytes < used + (sz : Int)
    · have HR := Lib.hid (show putRes bytes entries L used ⟨node, seq, path, kind, mode, xs, ps⟩ = 8 from by unfold putRes; rw [if_neg (by rw [HOK.out]; simp), if_neg (by rw [HSZ.out]; omega), if_neg (by rw [HK.out]; exact hex), if_pos (by rw [HSZ.out]; exact .inl hf1)])
      go_wp2_with fail
      go_ret
      exact FIN.out _ _ HR (by decide) hbw5
    by_cases hf2 : entries < (L.length : Int) + 1
    · have HR := Lib.hid (show putRes bytes entries L used ⟨node, seq, path, kind, mode, xs, ps⟩ = 8 from by unfold putRes; rw [if_neg (by rw [HOK.out]; simp), if_neg (by rw [HSZ.out]; omega), if_neg (by rw [HK.out]; exact hex), if_pos (by rw [HSZ.out]; exact .inr hf2)])
      go_wp2_with fail
      go_ret
      exact FIN.out _ _ HR (by decide) hbw5
    have HR := Lib.hid (show putRes bytes entries L used ⟨node, seq, path, kind, mode, xs, ps⟩ = 0 from by unfold putRes; rw [if_neg (by rw [HOK.out]; simp), if_neg (by rw [HSZ.out]; omega), if_neg (by rw [HK.out]; exact hex), if_neg (by rw [HSZ.out]; omega)])
    have c0 := blk_cell q5 0; have d1 := blk_cell q5 1; have d2 := blk_cell q5 2; have c3 := blk_cell q5 3; have c4 := blk_cell q5 4; have c5 := blk_cell q5 5; have c6 := blk_cell q5 6
    simp at c0 d1 d2 c3 c4 c5 c6
    clear FIN
    go_wp2_with fail
    refine (spool_own _ _ w5 hs (hv.below hbw5)).mono ?_
    rintro e w6 ⟨⟨v6, rfl, A6, c6', B6, d6', rfl, o1, o2⟩, hb6⟩
    dsimp only at o1 o2
    have hbw6 := below_trans hbw5 hb6
    have hh6 := h.keep hbw6
    have hgw := h.lt
    have hw5 := hbw5.size
    have hlk := link_more hh6 ⟨w6.heap.size, ⟨node, seq, path, kind, mode, xs, ps⟩, A6, c6', B6, d6'⟩ rfl hs (own_ge' o1 g (by omega)) (own_ge' o2 g (by omega))
    simp only [lkCells, HSZ.out, HBO.out] at hlk
    rw [show ptrOf [(⟨w6.heap.size, ⟨node, seq, path, kind, mode, xs, ps⟩, A6, c6', B6, d6'⟩ : Lk)] (0 + 1) = .pointer none from rfl] at hlk
    have s6 := hh6.slot L.length (Nat.le_refl _)
    rw [HBO.out, ptrOf_end] at s6
    have sb := hh6.slot_block (k := L.length) (Nat.le_refl _)
    rw [HBO.out] at sb
    dsimp only at sb
    have sf := hh6.slot_free L.length (Nat.le_refl _)
    rw [HBO.out] at sf
    rw [World.setCell_alloc_past _ _ _ _ sb] at hlk
    have hfr := (FrameS.of_below (g := g) (L := L) (below_alloc (Below.refl _ w6) (.cells #[.int .i64 node, .int .i64 seq, .string path, .int .i64 kind, .int .i64 mode, .slice A6 xs.length c6', .slice B6 ps.length d6', .int .i64 (sz : Int), .pointer none] 75))).slot L.length (Nat.le_refl _) (.pointer (some ⟨w6.heap.size, 0, none⟩))
    rw [HBO.out, World.setCell_alloc_past _ _ _ _ sb] at hfr
    have HFR := Lib.hid (FrameS.after hbw6 hfr)
    clear hfr
    have HLK := Lib.hid hlk
    have hh7 := hlk.2.1
    have a5 := blk_cell hh7 5; have f5 := blk_free hh7 5
    simp at a5
    clear hlk hh7
    go_wp2_with fail
    obtain ⟨hL7, hh7, hb7⟩ := HLK.out
    clear HLK s6 sf
    have hfr7 := HFR.out
    clear HFR
    generalize ((w6.setCell _ _).alloc _) = w7 at *
    have hll : (L.length : Int) + 1 ≤ 10001 := by omega
    refine (atomic_Add g 5 (L.length : Int) 1 w7 a5 f5 (by omega) (by omega)).mono ?_
    rintro e w8 ⟨rfl, hw8⟩
    have hL8 := hL7.set hh7 5 (.int .i64 ((L.length : Int) + 1))
    have hh8 := blk_set hh7 5 (.int .i64 ((L.length : Int) + 1))
    have hb8 := hb7.setCell (p := ⟨g, 5, none⟩) (Nat.le_refl _) (.int .i64 ((L.length : Int) + 1))
    simp only [List.setIfInBounds_toArray, List.set_cons_zero, List.set_cons_succ] at hh8
    have hfr8 := hfr7.set 5 (.int .i64 ((L.length : Int) + 1))
    rw [← hw8] at hL8 hh8 hb8 hfr8
    clear hw8
    have a4 := blk_cell hh8 4; have f4 := blk_free hh8 4
    simp at a4
    go_wp2_with fail
    have hA1 : -9223372036854775808 ≤ used + (sz : Int) := by omega
    have hA2 : used + (sz : Int) ≤ 9223372036854775807 := by omega
    have hL9 := hL8.set hh8 4 (.int .i64 (used + sz))
    have hh9 := blk_set hh8 4 (.int .i64 (used + sz))
    have hb9 := hb8.setCell (p := ⟨g, 4, none⟩) (Nat.le_refl _) (.int .i64 (used + sz))
    simp only [List.setIfInBounds_toArray, List.set_cons_zero, List.set_cons_succ] at hh9
    obtain ⟨w9, hw9⟩ : ∃ w9, w8.drew.setCell ⟨g, 4, none⟩ (.int .i64 (used + sz)) = w9 := ⟨_, rfl⟩
    have hL9' := hL9.of_heap (W' := w9) (by rw [← hw9]; rfl)
    have hhe : w9.heap = (w8.setCell ⟨g, 4, none⟩ (.int .i64 (used + sz))).heap := by rw [← hw9]; rfl
    have hh9' := hh9
    rw [← hhe] at hh9'
    have hb9' : Below g w6 w9 := by rw [← hw9]; exact below_drewN hb9 1
    have a6 := blk_cell hh9' 6; have f6 := blk_free hh9' 6
    simp at a6
    have hfr9 := (hfr8.set 4 (.int .i64 (used + sz))).of_heap hhe
    have HFR9 := Lib.hid hfr9
    have HW9 := Lib.hid hw9
    have HL9 := Lib.hid (And.intro hL9' (And.intro hh9' hb9'))
    clear hL9 hh9 hb9 hL9' hh9' hb9' hw9 hhe hfr9 hfr8 hfr7
    go_region_with (first
      | (go_at_call 31; refine (atomic_Add g 4 used (sz : Int) w8.drew a4 f4 hA1 hA2).mono ?_; rw [HW9.out]; rintro e w9 ⟨rfl, rfl⟩)
      | (go_at_call 38; refine (spool_raise g 6 most (used + sz) _ a6 f6).mono ?_; rintro e w10 ⟨rfl, hw10⟩; have HW10 := Lib.hid hw10; clear hw10))
    go_wp2_with fail
    go_ret
    obtain ⟨hL9, hh9, hb9⟩ := HL9.out
    have hw10 := HW10.out
    have hbw : Below g w w9 := (hbw6.mono (Nat.le_of_lt hgw)).trans hb9
    have hr := HR.out
    refine ⟨by rw [hr]; rfl, ⟨?_, by rw [hw10]; split; exact HFR9.out; exact HFR9.out.set 6 _⟩, fun h2 => absurd hr h2, fun _ => ⟨⟨w6.heap.size, ⟨node, seq, path, kind, mode, xs, ps⟩, A6, c6', B6, d6'⟩, rfl, ?_⟩⟩
    · rw [hw10]
      split
      · exact hbw
      · exact hbw.setCell (p := ⟨g, 6, none⟩) (Nat.le_refl _) _
    · rw [HSZ.out]
      have hlen : ∀ l : Lk, ((L ++ [l]).length : Int) = (L.length : Int) + 1 := fun l => by simp
      by_cases hm : used + (sz : Int) ≤ most
      · rw [if_pos hm] at hw10 ⊢
        rw [hw10]
        exact hL9.spool (by rw [hlen]; exact hh9)
      · rw [if_neg hm] at hw10 ⊢
        rw [hw10]
        have hh10 := blk_set hh9 6 (.int .i64 (used + sz))
        simp only [List.setIfInBounds_toArray, List.set_cons_zero, List.set_cons_succ] at hh10
        exact (hL9.set hh9 6 _).spool (by rw [hlen]; exact hh10)
end
end Go.Proofs.YtfdnobhedbglgaaGreatDoor
