import Derived.Test.YtfdnobhedbglgaaGreatDoorLaw4
namespace Go.Proofs.YtfdnobhedbglgaaGreatDoor
open Go Go.RowKit Go.Shelf
/-- An empty spool stays while another one is written. -/
theorem empty_keep {W W' : World} {g g2 : Nat} {L : List Lk} {bytes entries used most : Int} (h : SpoolAt W g2 bytes entries [] used most) (hf : FrameS g L W W') (hn : g2 ∉ spBlocks g L) : SpoolAt W' g2 bytes entries [] used most :=
  ⟨(hf g2 h.lt hn).trans h.head, fun k l hl => by simp at hl, fun l hl => by simp at hl, List.Pairwise.nil, fun l hl => by simp at hl⟩
theorem one_dot (w : World) : (Instr.field 39 oneV 0).run Tryz.prog w = .ok (.agg #[.int .i64 1, .int .i64 1]) w := by kernel_rfl
theorem res_4 : putRes 40 5 [] 0 evTwo = 0 := by
  unfold putRes; rw [two_ok, two_size, find_nil]; decide
theorem res_5 : putRes 16 5 [] 0 evOne = 3 := by
  unfold putRes; rw [one_ok, one_size]; decide
theorem res_6 : putRes 100 0 [] 0 evOne = 3 := by
  unfold putRes; rw [one_ok]; simp
theorem not_in {w : World} {g g2 : Nat} {bytes entries used most b2 e2 u2 m2 : Int} {L L2 : List Lk} (h : SpoolAt w g bytes entries L used most) (h2 : SpoolAt w g2 b2 e2 L2 u2 m2) (h1 : g ≠ g2) : g2 ∉ spBlocks g L := by
  simp only [spBlocks, List.mem_cons, List.mem_map, not_or, not_exists, not_and]
  refine ⟨fun e => h1 e.symm, fun l hl e => ?_⟩
  obtain ⟨k, hk⟩ := List.getElem?_of_mem hl
  have a := h.link k l hk
  rw [e, h2.head] at a
  simp at a
set_option maxHeartbeats 16000000 in
set_option maxRecDepth 100000 in
theorem law_known (w : World) : Calls Tryz.prog 17 #[] w fun e w' => e = .returned (.bool true) ∧ Below w.heap.size w w' := by
  go_enter Tryz.func17, Tryz.ntmps17
  go_wp2_with fail
  refine (spool_New_ok 40 5 w (by decide) (by decide) (by decide) (by decide)).mono ?_
  rintro e w1 ⟨rfl, hb1, hS1⟩
  go_wp2_with fail
  refine (spool_New_ok 16 5 w1 (by decide) (by decide) (by decide) (by decide)).mono ?_
  rintro e w2 ⟨rfl, hb2, hT2⟩
  have hS2 := hS1.keep hb2
  have hs1 := hS1.lt
  go_wp2_with fail
  refine (spool_New_ok 100 0 w2 (by decide) (by decide) (by decide) (by decide)).mono ?_
  rintro e w3 ⟨rfl, hb3, hU3⟩
  have hS3 := hS2.keep hb3
  have hT3 := hT2.keep hb3
  have ht2 := hT2.lt
  go_wp2_with fail
  refine (spool_New_bad (-1) 0 w3 (by decide)).mono ?_
  rintro e w4 ⟨rfl, hb4⟩
  have hS4 := hS3.keep hb4
  have hT4 := hT3.keep hb4
  have hU4 := hU3.keep hb4
  have hu3 := hU3.lt
  go_wp2_with fail
  refine (law_one w4).mono ?_
  rintro e w5 ⟨⟨v5, rfl, hv5⟩, hb5⟩
  have hS5 := hS4.keep hb5
  have hT5 := hT4.keep hb5
  have hU5 := hU4.keep hb5
  obtain ⟨A5, c5, B5, d5, rfl, -, -⟩ := id hv5
  go_wp2_with fail
  refine (put_in hS5 evOne _ one_short hv5 (by decide) (by decide) (by decide) (by decide) (by decide) res_1).mono ?_
  rintro e w6 ⟨rfl, ⟨hb6, hf6⟩, l, hl, hS6⟩
  rw [one_size] at hS6
  have hS6 : SpoolAt w6 w.heap.size 40 5 [l] 17 17 := by simpa using hS6
  have hT6 := empty_keep hT5 hf6 (by simp [spBlocks]; omega)
  have hU6 := empty_keep hU5 hf6 (by simp [spBlocks]; omega)
  go_wp2_with fail
  refine (law_one' w6).mono ?_
  rintro e w7 ⟨⟨rfl, hv7⟩, hb7⟩
  have hS7 := hS6.keep hb7
  have hT7 := hT6.keep hb7
  have hU7 := hU6.keep hb7
  have hfd := one_dot
  go_wp2_with fail
  have hT7' := not_in hS7 hT7 (by omega)
  have hU7' := not_in hS7 hU7 (by omega)
  refine (spool_Drop hS7 1 1 (by decide) (by decide) (by simp)).mono ?_
  rintro x w8 ⟨⟨hb8, hf8⟩, hx⟩
  have hT8 := empty_keep hT7 hf8 hT7'
  have hU8 := empty_keep hU7 hf8 hU7'
  have hfa : findAt [l] 1 1 = 0 := by rw [find_one]; simp [isDot, hl, evOne]
  rw [hfa] at hx
  rcases hx with ⟨h0, -⟩ | ⟨l', hl', rfl, hS8⟩
  · simp at h0
  obtain rfl : l = l' := by simpa using hl'
  rw [hl, one_size] at hS8
  have hS8 : SpoolAt w8 w.heap.size 40 5 [] 0 17 := by simpa using hS8
  go_wp2_with fail
  refine (law_two w8).mono ?_
  rintro e w9 ⟨⟨v9, rfl, hv9⟩, hb9⟩
  have hS9 := hS8.keep hb9
  have hT9 := hT8.keep hb9
  have hU9 := hU8.keep hb9
  obtain ⟨A9, c9, B9, d9, rfl, -, -⟩ := id hv9
  have hT9' := not_in hS9 hT9 (by omega)
  have hU9' := not_in hS9 hU9 (by omega)
  go_wp2_with fail
  refine (put_in hS9 evTwo _ two_short hv9 (by decide) (by decide) (by decide) (by decide) (by decide) res_4).mono ?_
  rintro e w10 ⟨rfl, ⟨hb10, hf10⟩, l2, hl2, hS10⟩
  rw [two_size] at hS10
  have hS10 : SpoolAt w10 w.heap.size 40 5 [l2] 26 26 := by simpa using hS10
  have hT10 := empty_keep hT9 hf10 hT9'
  have hU10 := empty_keep hU9 hf10 hU9'
  go_wp2_with fail
  refine (law_used hS10 26 1).mono ?_
  rintro e w11 ⟨rfl, hb11⟩
  have hS11 := hS10.keep hb11
  have hT11 := hT10.keep hb11
  have hU11 := hU10.keep hb11
  rw [show ((26 : Int) == 26 && (([l2] : List Lk).length : Int) == 1) = true from by simp]
  go_wp2_with fail
  refine (spool_Most hS11).mono ?_
  rintro e w12 ⟨rfl, hb12⟩
  have hS12 := hS11.keep hb12
  have hT12 := hT11.keep hb12
  have hU12 := hU11.keep hb12
  go_wp2_with fail
  refine (law_one' w12).mono ?_
  rintro e w13 ⟨⟨rfl, hv13⟩, hb13⟩
  have hS13 := hS12.keep hb13
  have hT13 := hT12.keep hb13
  have hU13 := hU12.keep hb13
  have hT13' := not_in hS13 hT13 (by omega)
  have hU13' := not_in hS13 hU13 (by omega)
  go_wp2_with fail
  refine (spool_Drop hS13 1 1 (by decide) (by decide) (by simp)).mono ?_
  rintro x w14 ⟨⟨hb14, hf14⟩, hx⟩
  have hT14 := empty_keep hT13 hf14 hT13'
  have hU14 := empty_keep hU13 hf14 hU13'
  have hfa2 : findAt [l2] 1 1 = 1 := by rw [find_one]; simp [isDot, hl2, evTwo]
  rw [hfa2] at hx
  rcases hx with ⟨-, rfl, hS14⟩ | ⟨l', hl', -⟩
  rotate_left
  · simp at hl'
  go_wp2_with fail
  refine (law_awake w14).mono ?_
  rintro e w15 ⟨rfl, hb15⟩
  have hT15 := hT14.keep hb15
  have hU15 := hU14.keep hb15
  go_wp2_with fail
  refine (law_one w15).mono ?_
  rintro e w16 ⟨⟨v16, rfl, hv16⟩, hb16⟩
  have hT16 := hT15.keep hb16
  have hU16 := hU15.keep hb16
  obtain ⟨A16, c16, B16, d16, rfl, -, -⟩ := id hv16
  have hU16' := not_in hT16 hU16 (by omega)
  go_wp2_with fail
  refine (put_out hT16 evOne _ one_short hv16 (by decide) (by decide) (by decide) (by decide) (by decide) 3 res_5 (by decide)).mono ?_
  rintro e w17 ⟨rfl, ⟨hb17, hf17⟩, hT17⟩
  have hU17 := empty_keep hU16 hf17 hU16'
  go_wp2_with fail
  refine (law_one w17).mono ?_
  rintro e w18 ⟨⟨v18, rfl, hv18⟩, hb18⟩
  have hU18 := hU17.keep hb18
  obtain ⟨A18, c18, B18, d18, rfl, -, -⟩ := id hv18
  go_wp2_with fail
  refine (put_out hU18 evOne _ one_short hv18 (by decide) (by decide) (by decide) (by decide) (by decide) 3 res_6 (by decide)).mono ?_
  rintro e w19 ⟨rfl, ⟨hb19, -⟩, -⟩
  go_wp2_with fail
  go_ret
  have z4 := below_trans (below_trans (below_trans hb1 hb2) hb3) hb4
  have z6 := (below_trans z4 hb5).trans hb6
  have z8 := (below_trans z6 hb7).trans hb8
  have z10 := (below_trans z8 hb9).trans hb10
  have z13 := below_trans (below_trans (below_trans z10 hb11) hb12) hb13
  have z16 := below_trans (below_trans (z13.trans hb14) hb15) hb16
  have z17 := z16.trans (hb17.mono (by omega))
  exact ⟨rfl, (below_trans z17 hb18).trans (hb19.mono (by omega))⟩
end Go.Proofs.YtfdnobhedbglgaaGreatDoor
