import Derived.Test.YtfdnobhedbglgaaGreatDoorLaw3
namespace Go.Proofs.YtfdnobhedbglgaaGreatDoor
open Go Go.RowKit Go.Shelf
section
variable {w : World} {g : Nat} {bytes entries : Int} {L : List Lk} {used most : Int}
theorem put_in (h : SpoolAt w g bytes entries L used most) (e : Ev) (v : Value) (hs : e.short) (hv : EvAt w e v) (hu : 0 ≤ used) (hu2 : used ≤ bytes) (hb : bytes ≤ 10000000) (hl : (L.length : Int) ≤ entries) (he : entries ≤ 10000) (hr : putRes bytes entries L used e = 0) :
    Calls Tryz.prog 12 #[.pointer (some ⟨g, 0, none⟩), v] w fun x w' => x = .returned (.int .i64 0) ∧ (Below g w w' ∧ FrameS g L w w') ∧ ∃ l : Lk, l.e = e ∧ SpoolAt w' g bytes entries (L ++ [l]) (used + e.size) (if used + e.size ≤ most then most else used + e.size) :=
  (spool_Put h e v hs hv hu hu2 hb hl he).mono fun x w' hp => ⟨by rw [hp.1, hr], hp.2.1, hp.2.2.2 hr⟩
theorem put_out (h : SpoolAt w g bytes entries L used most) (e : Ev) (v : Value) (hs : e.short) (hv : EvAt w e v) (hu : 0 ≤ used) (hu2 : used ≤ bytes) (hb : bytes ≤ 10000000) (hl : (L.length : Int) ≤ entries) (he : entries ≤ 10000) (r : Int) (hr : putRes bytes entries L used e = r) (h0 : r ≠ 0) :
    Calls Tryz.prog 12 #[.pointer (some ⟨g, 0, none⟩), v] w fun x w' => x = .returned (.int .i64 r) ∧ (Below g w w' ∧ FrameS g L w w') ∧ SpoolAt w' g bytes entries L used most :=
  (spool_Put h e v hs hv hu hu2 hb hl he).mono fun x w' hp => ⟨by rw [hp.1, hr], hp.2.1, hp.2.2.1 (by rw [hr]; exact h0)⟩
end
theorem keep7 {W W' : World} {g : Nat} {a b c d e f i : Value} (hb : Below W.heap.size W W') (h : W.cell? ⟨g, 0, none⟩ = some a ∧ W.cell? ⟨g, 1, none⟩ = some b ∧ W.cell? ⟨g, 2, none⟩ = some c ∧ W.cell? ⟨g, 3, none⟩ = some d ∧ W.cell? ⟨g, 4, none⟩ = some e ∧ W.cell? ⟨g, 5, none⟩ = some f ∧ W.cell? ⟨g, 6, none⟩ = some i) :
    W'.cell? ⟨g, 0, none⟩ = some a ∧ W'.cell? ⟨g, 1, none⟩ = some b ∧ W'.cell? ⟨g, 2, none⟩ = some c ∧ W'.cell? ⟨g, 3, none⟩ = some d ∧ W'.cell? ⟨g, 4, none⟩ = some e ∧ W'.cell? ⟨g, 5, none⟩ = some f ∧ W'.cell? ⟨g, 6, none⟩ = some i := by
  have hl := cell_lt h.1
  obtain ⟨h0, h1, h2, h3, h4, h5, h6⟩ := h
  exact ⟨((bcell hb).1 _ _ hl).trans h0, ((bcell hb).1 _ _ hl).trans h1, ((bcell hb).1 _ _ hl).trans h2, ((bcell hb).1 _ _ hl).trans h3, ((bcell hb).1 _ _ hl).trans h4, ((bcell hb).1 _ _ hl).trans h5, ((bcell hb).1 _ _ hl).trans h6⟩
theorem find_nil (n s : Int) : findAt [] n s = 0 := rfl
theorem find_one (l : Lk) (n s : Int) : findAt [l] n s = if isDot n s l then 0 else 1 := by
  unfold findAt; rw [List.findIdx_cons]; cases isDot n s l <;> simp
theorem res_1 : putRes 40 5 [] 0 evOne = 0 := by
  unfold putRes; rw [one_ok, one_size, find_nil]; decide
theorem res_2 (l : Lk) (h : l.e = evOne) : putRes 40 5 [l] 17 evOne = 7 := by
  have : isDot evOne.node evOne.seq l = true := by unfold isDot; rw [h]; decide
  unfold putRes; rw [one_ok, one_size, find_one, this]; simp
theorem res_3 (l : Lk) (h : l.e = evOne) : putRes 40 5 [l] 17 evTwo = 8 := by
  have : isDot evTwo.node evTwo.seq l = false := by unfold isDot; rw [h]; decide
  unfold putRes; rw [two_ok, two_size, find_one, this]; simp
set_option maxHeartbeats 8000000 in
set_option maxRecDepth 100000 in
theorem law_awake (w : World) : Calls Tryz.prog 6 #[] w fun e w' => e = .returned (.bool true) ∧ Below w.heap.size w w' := by
  go_enter Tryz.func6, Tryz.ntmps6
  go_wp2_with fail
  refine (spool_New_ok 40 5 w (by decide) (by decide) (by decide) (by decide)).mono ?_
  rintro e w1 ⟨rfl, hb1, hS1⟩
  go_wp2_with fail
  refine (law_one w1).mono ?_
  rintro e w2 ⟨⟨v2, rfl, hv2⟩, hb2⟩
  have hS2 := hS1.keep hb2
  have hB2 := below_trans hb1 hb2
  obtain ⟨A2, c2, B2, d2, rfl, -, -⟩ := id hv2
  go_wp2_with fail
  refine (put_in hS2 evOne _ one_short hv2 (by decide) (by decide) (by decide) (by decide) (by decide) res_1).mono ?_
  rintro e w3 ⟨rfl, ⟨hb3, -⟩, l, hl, hS3⟩
  rw [one_size] at hS3
  have hS3 : SpoolAt w3 w.heap.size 40 5 [l] 17 17 := by simpa using hS3
  have hB3 := hB2.trans hb3
  clear hS2 hv2 hb2
  go_wp2_with fail
  refine (law_one w3).mono ?_
  rintro e w4 ⟨⟨v4, rfl, hv4⟩, hb4⟩
  have hS4 := hS3.keep hb4
  have hB4 := below_trans hB3 hb4
  obtain ⟨A4, c4, B4, d4, rfl, -, -⟩ := id hv4
  go_wp2_with fail
  refine (put_out hS4 evOne _ one_short hv4 (by decide) (by decide) (by decide) (by simp) (by decide) 7 (res_2 l hl) (by decide)).mono ?_
  rintro e w5 ⟨rfl, ⟨hb5, -⟩, hS5⟩
  have hB5 := hB4.trans hb5
  clear hS4 hv4 hb4 hS3
  go_wp2_with fail
  refine (law_two w5).mono ?_
  rintro e w6 ⟨⟨v6, rfl, hv6⟩, hb6⟩
  have hS6 := hS5.keep hb6
  have hB6 := below_trans hB5 hb6
  obtain ⟨A6, c6, B6, d6, rfl, -, -⟩ := id hv6
  go_wp2_with fail
  refine (put_out hS6 evTwo _ two_short hv6 (by decide) (by decide) (by decide) (by simp) (by decide) 8 (res_3 l hl) (by decide)).mono ?_
  rintro e w7 ⟨rfl, ⟨hb7, -⟩, hS7⟩
  have hB7 := hB6.trans hb7
  clear hS6 hv6 hb6 hS5
  go_wp2_with fail
  refine (law_used hS7 17 1).mono ?_
  rintro e w8 ⟨rfl, hb8⟩
  have hS8 := hS7.keep hb8
  have hB8 := below_trans hB7 hb8
  rw [show ((17 : Int) == 17 && (([l] : List Lk).length : Int) == 1) = true from by simp]
  go_wp2_with fail
  refine (spool_First hS8 l rfl).mono ?_
  rintro e w9 ⟨⟨v9, rfl, ho9⟩, hb9⟩
  have hv9 := ho9.at
  rw [hl] at hv9
  have hB9 := below_trans hB8 hb9
  obtain ⟨A9, c9, B9, d9, rfl, -, -⟩ := id hv9
  have q9 := World.alloc_heap_new w9 (.cells #[.int .i64 evOne.node, .int .i64 evOne.seq, .string evOne.path, .int .i64 evOne.kind, .int .i64 evOne.mode, .slice A9 evOne.bytes.length c9, .slice B9 evOne.past.length d9] 39)
  have hb10 := below_alloc (Below.refl _ w9) (.cells #[.int .i64 evOne.node, .int .i64 evOne.seq, .string evOne.path, .int .i64 evOne.kind, .int .i64 evOne.mode, .slice A9 evOne.bytes.length c9, .slice B9 evOne.past.length d9] 39)
  have HQ := Lib.hid (And.intro q9 hb10)
  clear q9 hb10
  go_wp2_with fail
  obtain ⟨q9, hb10⟩ := HQ.out
  clear HQ
  have hv10 := hv9.below hb10
  have hB10 := below_trans hB9 hb10
  have HQ9 := Lib.hid q9
  generalize (w9.alloc _) = W10 at *
  have x0 := blk_cell q9 0; have x1 := blk_cell q9 1; have x2 := blk_cell q9 2; have x3 := blk_cell q9 3; have x4 := blk_cell q9 4; have x5 := blk_cell q9 5; have x6 := blk_cell q9 6
  have hX : (fun W => W.cell? ⟨w9.heap.size, 0, none⟩ = some (.int .i64 evOne.node) ∧ W.cell? ⟨w9.heap.size, 1, none⟩ = some (.int .i64 evOne.seq) ∧ W.cell? ⟨w9.heap.size, 2, none⟩ = some (.string evOne.path) ∧ W.cell? ⟨w9.heap.size, 3, none⟩ = some (.int .i64 evOne.kind) ∧ W.cell? ⟨w9.heap.size, 4, none⟩ = some (.int .i64 evOne.mode) ∧ W.cell? ⟨w9.heap.size, 5, none⟩ = some (.slice A9 evOne.bytes.length c9) ∧ W.cell? ⟨w9.heap.size, 6, none⟩ = some (.slice B9 evOne.past.length d9)) W10.drew := ⟨x0, x1, x2, x3, x4, x5, x6⟩
  have HV10 := Lib.hid (hv10.below (below_drew (Below.refl _ W10)))
  clear q9 hv10 hv9 ho9 hl hS8 hS7 hS1 x0 x1 x2 x3 x4 x5 x6
  go_region_held3 (fun W => W.cell? ⟨w9.heap.size, 0, none⟩ = some (.int .i64 evOne.node) ∧ W.cell? ⟨w9.heap.size, 1, none⟩ = some (.int .i64 evOne.seq) ∧ W.cell? ⟨w9.heap.size, 2, none⟩ = some (.string evOne.path) ∧ W.cell? ⟨w9.heap.size, 3, none⟩ = some (.int .i64 evOne.kind) ∧ W.cell? ⟨w9.heap.size, 4, none⟩ = some (.int .i64 evOne.mode) ∧ W.cell? ⟨w9.heap.size, 5, none⟩ = some (.slice A9 evOne.bytes.length c9) ∧ W.cell? ⟨w9.heap.size, 6, none⟩ = some (.slice B9 evOne.past.length d9)) ((first | exact hX | exact keep7 hb11 hX | exact keep7 (below_trans hb11 hb12) hX))
    (first
      | (go_at_call 26; refine (law_one W10.drew).mono ?_; rintro e w11 ⟨⟨v11, rfl, hv11⟩, hb11⟩; obtain ⟨A11, c11, B11, d11, rfl, -, -⟩ := id hv11)
      | (go_at_call 14; refine (kit_SameEvent evOne _ _ _ (HV10.out.below hb11) hv11 one_short).mono ?_; rintro e w12 ⟨rfl, hb12⟩))
  go_wp2
  go_ret
  exact ⟨rfl, below_trans (below_trans (below_drew hB10) hb11) hb12⟩
end Go.Proofs.YtfdnobhedbglgaaGreatDoor
