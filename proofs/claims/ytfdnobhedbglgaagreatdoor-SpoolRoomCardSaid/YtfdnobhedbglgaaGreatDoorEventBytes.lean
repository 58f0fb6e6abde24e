import Derived.Test.YtfdnobhedbglgaaGreatDoorPastBytes
namespace Go.Proofs.YtfdnobhedbglgaaGreatDoor
open Go Go.RowKit Go.Shelf
def eventB (node seq : Int) (path : List UInt8) (kind mode : Int) (xs : List UInt8) (past : List Sp) : List UInt8 :=
  numB node.toNat ++ numB seq.toNat ++ rawB path ++ rawB (effBs kind mode xs) ++ rawB (pastBs past)
def eventBs (node seq : Int) (path : List UInt8) (kind mode : Int) (xs : List UInt8) (past : List Sp) : List UInt8 :=
  if evOkF node seq path kind mode xs.length past then eventB node seq path kind mode xs past else []
theorem dotOk_bd {n s : Int} (h : dotOk n s = true) : 1 ≤ n ∧ n ≤ 200 ∧ 1 ≤ s ∧ s ≤ 2147483647 := by
  simp [dotOk] at h; omega
theorem effBs_length (k m : Int) (xs : List UInt8) : (effBs k m xs).length ≤ 1027 := by
  unfold effBs
  split
  · rename_i h
    have hb := effOk_bd h
    have h1 := numB_length k.toNat (by omega); have h2 := numB_length m.toNat (by omega); have h3 := numB_length xs.length (by omega)
    have m1 := many_le k.toNat (by omega); have m2 := many_le m.toNat (by omega); have m3 := many_le xs.length (by omega)
    unfold effB rawB
    simp only [List.length_append]
    omega
  · simp
theorem pastBs_length (xs : List Sp) : (pastBs xs).length ≤ 36002 := by
  unfold pastBs
  split
  · rename_i h
    have := pastOk_len h
    have := pastPre_length xs.length xs
    unfold pastB; omega
  · simp
theorem rawB_le (xs : List UInt8) (h : xs.length ≤ 1048576) : (rawB xs).length ≤ xs.length + 9 := by
  unfold rawB
  have := many_le xs.length (by omega)
  rw [List.length_append, numB_length _ (by omega)]
  omega
theorem evOkF_parts {node seq kind mode : Int} {path : List UInt8} {n : Nat} {past : List Sp} (h : evOkF node seq path kind mode n past = true) : dotOk node seq = true ∧ effOk kind mode n = true ∧ pastOk past = true := by
  simp [evOkF] at h; exact ⟨h.1.1.1.1, h.1.1.2, h.1.2⟩
set_option maxHeartbeats 8000000 in
set_option maxRecDepth 100000 in
theorem event_Bytes (node seq kind mode : Int) (path : ByteArray) (A B : Option Addr) (c d : Nat) (xs : List UInt8) (past : List Sp) (w : World) (hp : path.size ≤ 100000)
    (hx : ByS w (.slice A xs.length c) xs) (hn : xs.length ≤ 9223372036854775807) (hs : RowAt w B (spCells past)) (hl : past.length ≤ 4611686018427387904) :
    Calls Tryz.prog 46 #[evV node seq path kind mode (.slice A xs.length c) (.slice B past.length d)] w fun e w' => (∃ v', e = .returned (.tuple #[v', .int .i64 (errOf (evOkF node seq path.data.toList kind mode xs.length past))]) ∧ w'.ownsRow w.heap.size 5 1 v' (eventBs node seq path.data.toList kind mode xs past).length (byCells (eventBs node seq path.data.toList kind mode xs past))) ∧ Below w.heap.size w w' := by
  have hb0 := (Below.refl w.heap.size w).alloc (Nat.le_refl _) (.cells #[.int .i64 node, .int .i64 seq, .string path, .int .i64 kind, .int .i64 mode, .slice A xs.length c, .slice B past.length d] 39)
  have HX := Lib.hid hx
  have HS := Lib.hid hs
  clear hx hs
  by_cases hok : evOkF node seq path.data.toList kind mode xs.length past = true
  · obtain ⟨k1, k2, k3⟩ := evOkF_parts hok
    have kd := dotOk_bd k1
    obtain ⟨nn, rfl⟩ := Int.eq_ofNat_of_zero_le (show 0 ≤ node by omega)
    obtain ⟨sn, rfl⟩ := Int.eq_ofNat_of_zero_le (show 0 ≤ seq by omega)
    have E0 : Hid (errOf (evOkF nn sn path.data.toList kind mode xs.length past) = 0) := by rw [hok]; rfl
    have E1 : Hid (eventBs nn sn path.data.toList kind mode xs past = numB nn ++ numB sn ++ rawB path.data.toList ++ rawB (effBs kind mode xs) ++ rawB (pastBs past)) := by unfold eventBs eventB; rw [if_pos hok]; rfl
    have E2 : Hid (errOf (effOk kind mode xs.length) = 0) := by rw [k2]; rfl
    have E3 : Hid (errOf (pastOk past) = 0) := by rw [k3]; rfl
    clear hok k1 k2 k3
    have m1 := many_le nn (by omega); have m2 := many_le sn (by omega)
    have L1 := Lib.hid (numB_length nn (by omega)); have L2 := Lib.hid (numB_length sn (by omega))
    have le := effBs_length kind mode xs
    have lp := pastBs_length past
    go_enter Tryz.func46, Tryz.ntmps46
    have q0 := World.alloc_heap_new w (.cells #[.int .i64 (nn : Int), .int .i64 (sn : Int), .string path, .int .i64 kind, .int .i64 mode, .slice A xs.length c, .slice B past.length d] 39)
    have Q0 := Lib.hid q0
    clear q0
    go_wp2_with fail
    refine (event_Check _ _ _ _ path A B xs.length c d past _ (by omega) hn (spAt_of_row (HS.out.below hb0)) hl).mono ?_
    rw [E0.out]
    rintro e w1 ⟨rfl, hb1⟩
    have hs1 := hb1.size
    rw [World.size_alloc] at hs1
    have q1 := (hb1.block w.heap.size (by simp)).trans Q0.out
    have hbw1 := below_trans hb0 hb1
    have c3 := blk_cell q1 3; have c4 := blk_cell q1 4; have c5 := blk_cell q1 5
    simp at c3 c4 c5
    go_wp2_with fail
    refine (effect_Bytes kind mode A c xs w1 (HX.out.below hbw1) hn).mono ?_
    rw [E2.out]
    rintro e w2 ⟨⟨v2, rfl, ho2⟩, hb2⟩
    obtain ⟨ys, hys⟩ : ∃ ys, effBs kind mode xs = ys := ⟨_, rfl⟩
    rw [hys] at ho2 le E1
    clear hys
    have hx2 := own_by ho2
    obtain ⟨A2, cc2, rfl, -⟩ := own_row ho2
    clear ho2
    have q2 := (hb2.block w.heap.size (by omega)).trans q1
    clear c3 c4 c5
    have c6 := blk_cell q2 6
    simp at c6
    have hbw2 := below_trans hbw1 hb2
    go_wp2_with fail
    refine (past_Bytes B d past w2 (HS.out.below hbw2) hl).mono ?_
    rw [E3.out]
    rintro e w3 ⟨⟨v3, rfl, hN3⟩, hb3⟩
    obtain ⟨zs, hzs⟩ : ∃ zs, pastBs past = zs := ⟨_, rfl⟩
    rw [hzs] at hN3 lp E1
    clear hzs
    obtain ⟨hx3, -⟩ := hN3
    have HX3 := Lib.hid hx3
    obtain ⟨A3, cc3, rfl, -⟩ := hx3
    have q3 := (hb3.block w.heap.size (by have := hb2.size; omega)).trans q2
    have hbw3 := below_trans hbw2 hb3
    have hs3 : w.heap.size + 1 ≤ w3.heap.size := by have := hb2.size; have := hb3.size; omega
    have HX2 := Lib.hid (hx2.below hb3)
    clear c6 hx2
    go_wp2_with fail
    refine (wire_New w3).mono ?_
    rintro e w4 ⟨rfl, hW4, hb4⟩
    have q4 := (hb4.block w.heap.size (by omega)).trans q3
    have hbw4 := below_trans hbw3 hb4
    have c0 := blk_cell q4 0; have c1 := blk_cell q4 1
    simp at c0 c1
    go_wp2_with fail
    refine (wire_Num w3.heap.size _ _ nn (by omega) w4 hW4 (by simp; omega)).mono ?_
    rintro e w5 ⟨rfl, ⟨v5, hW5, hK5⟩, hb5⟩
    have q5 := (hb5.block w.heap.size (by omega)).trans q4
    clear c0 c1
    have c0 := blk_cell q5 0; have c1 := blk_cell q5 1
    simp at c0 c1
    go_wp2_with fail
    refine (wire_Num w3.heap.size _ _ sn (by omega) w5 hW5 (by rw [List.length_append, L1.out]; simp; omega)).mono ?_
    rintro e w6 ⟨rfl, ⟨v6, hW6, hK6⟩, hb6⟩
    have q6 := (hb6.block w.heap.size (by omega)).trans q5
    clear c0 c1
    have c2 := blk_cell q6 2
    simp at c2
    go_wp2_with fail
    refine (wire_Text w3.heap.size _ _ path w6 hW6 (by omega) (by have := many_le path.size (by omega); rw [List.length_append, List.length_append, L1.out, L2.out]; simp; omega)).mono ?_
    rintro e w7 ⟨rfl, ⟨v7, hW7, hK7⟩, hb7⟩
    have hb37 : Below w3.heap.size w3 w7 := ((hb4.trans hb5).trans hb6).trans hb7
    clear c2
    have lr1 := rawB_le path.data.toList (by rw [size_list]; omega)
    rw [size_list] at lr1
    have lr2 := rawB_le ys (by omega)
    go_wp2_with fail
    refine (wire_Raw w3.heap.size v7 _ A2 cc2 ys w7 hW7 (by_keep (B := w3.heap.size) (HX2.out.below hb37) (Nat.le_refl _) (own_base' hW7.2.1) HX2.out.lt) (by omega) (by have := many_le ys.length (by omega); simp only [List.length_append, List.length_nil, L1.out, L2.out]; omega)).mono ?_
    rintro e w8 ⟨rfl, ⟨v8, hW8, hK8⟩, hb8⟩
    go_wp2_with fail
    refine (wire_Raw w3.heap.size v8 _ A3 cc3 zs w8 hW8 (by_keep (B := w3.heap.size) (HX3.out.below (hb37.trans hb8)) (Nat.le_refl _) (own_base' hW8.2.1) HX3.out.lt) (by omega) (by have := many_le zs.length (by omega); simp only [List.length_append, List.length_nil, L1.out, L2.out]; omega)).mono ?_
    rintro e w9 ⟨rfl, ⟨v9, hW9, hK9⟩, hb9⟩
    go_wp2_with fail
    refine (wire_Out w3.heap.size v9 _ w9 hW9).mono ?_
    rintro e w10 ⟨⟨v10, rfl, ho10⟩, hb10⟩
    obtain ⟨A10, c10, rfl, -⟩ := own_row ho10
    go_wp2_with fail
    go_ret2
    have hbw9 : Below w.heap.size w w9 := below_trans hbw3 ((hb37.trans hb8).trans hb9)
    exact ⟨⟨_, by rw [E0.out]; rfl, by rw [E1.out]; simpa using own_ge' ho10 w.heap.size hbw9.size⟩, below_trans hbw9 hb10⟩
  · have hok' : evOkF node seq path.data.toList kind mode xs.length past = false := by simpa using hok
    have E0 : Hid (errOf (evOkF node seq path.data.toList kind mode xs.length past) = 2) := by rw [hok']; rfl
    have E1 : Hid (eventBs node seq path.data.toList kind mode xs past = []) := by unfold eventBs; rw [if_neg hok]; rfl
    clear hok hok'
    go_enter Tryz.func46, Tryz.ntmps46
    go_wp2_with (go_at_call 36; refine (event_Check _ _ _ _ path A B xs.length c d past _ (by omega) hn (spAt_of_row (HS.out.below hb0)) hl).mono ?_; rw [E0.out]; rintro e w1 ⟨rfl, hb1⟩)
    go_ret2
    exact ⟨⟨.slice none 0 0, by rw [E0.out]; rfl, by rw [E1.out]; exact World.ownsRow_nil _ _ _ _⟩, below_trans hb0 hb1⟩
theorem eventBs_length (node seq kind mode : Int) (path : List UInt8) (xs : List UInt8) (past : List Sp) (hp : path.length ≤ 100000) : (eventBs node seq path kind mode xs past).length ≤ 200000 := by
  unfold eventBs
  split
  · rename_i h
    have kd := dotOk_bd (evOkF_parts h).1
    have h1 := numB_length node.toNat (by omega); have h2 := numB_length seq.toNat (by omega)
    have m1 := many_le node.toNat (by omega); have m2 := many_le seq.toNat (by omega)
    have le := effBs_length kind mode xs
    have lp := pastBs_length past
    have l1 := rawB_le path (by omega); have l2 := rawB_le (effBs kind mode xs) (by omega); have l3 := rawB_le (pastBs past) (by omega)
    unfold eventB
    simp only [List.length_append]; omega
  · simp
def evSize (node seq : Int) (path : List UInt8) (kind mode : Int) (xs : List UInt8) (past : List Sp) : Nat := (eventBs node seq path kind mode xs past).length
set_option maxHeartbeats 2000000 in
set_option maxRecDepth 100000 in
theorem event_Size (node seq kind mode : Int) (path : ByteArray) (A B : Option Addr) (c d : Nat) (xs : List UInt8) (past : List Sp) (w : World) (hp : path.size ≤ 100000)
    (hx : ByS w (.slice A xs.length c) xs) (hn : xs.length ≤ 9223372036854775807) (hs : RowAt w B (spCells past)) (hl : past.length ≤ 4611686018427387904) :
    Calls Tryz.prog 20 #[evV node seq path kind mode (.slice A xs.length c) (.slice B past.length d)] w fun e w' => e = .returned (.int .i64 ((evSize node seq path.data.toList kind mode xs past : Nat) : Int)) ∧ Below w.heap.size w w' := by
  have hb0 := (Below.refl w.heap.size w).alloc (Nat.le_refl _) (.cells #[.int .i64 node, .int .i64 seq, .string path, .int .i64 kind, .int .i64 mode, .slice A xs.length c, .slice B past.length d] 39)
  have HX := Lib.hid hx
  have HS := Lib.hid hs
  clear hx hs
  have he := eventBs_length node seq kind mode path.data.toList xs past (by rw [size_list]; omega)
  obtain ⟨bs, hbs⟩ : ∃ bs, eventBs node seq path.data.toList kind mode xs past = bs := ⟨_, rfl⟩
  have E : Hid (evSize node seq path.data.toList kind mode xs past = bs.length) := by unfold evSize; rw [hbs]; rfl
  rw [hbs] at he
  have HBS := Lib.hid hbs
  clear hbs
  obtain ⟨n, hn'⟩ : ∃ n, bs.length = n := ⟨_, rfl⟩
  rw [hn'] at he E
  have HN := Lib.hid hn'
  clear hn'
  go_enter Tryz.func20, Tryz.ntmps20
  go_wp2_with (go_at_call 46; refine (event_Bytes node seq kind mode path A B c d xs past _ hp (HX.out.below hb0) hn (HS.out.below hb0) hl).mono ?_; rintro e w1 ⟨⟨v1, rfl, ho⟩, hb1⟩; rw [HBS.out, HN.out] at ho; obtain ⟨A1, c1, rfl, -⟩ := own_row ho)
  go_ret
  exact ⟨by rw [E.out]; rfl, below_trans hb0 hb1⟩
end Go.Proofs.YtfdnobhedbglgaaGreatDoor
