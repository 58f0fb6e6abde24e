import Derived.Test.YtfdnobhedbglgaaGreatDoorWire3
import Derived.Test.YtfdnobhedbglgaaGreatDoorEventCheck2
namespace Go.Proofs.YtfdnobhedbglgaaGreatDoor
open Go Go.RowKit Go.Shelf
theorem ByS.lt {w : World} {v : Value} {xs : List UInt8} (h : ByS w v xs) : ∀ b, v.ownBlock = some b → 0 < xs.length → b < w.heap.size := by
  intro b hb h0
  obtain ⟨A, c, rfl, -, -, hr⟩ := h
  obtain ⟨b', o, rfl, hc⟩ := hr (by rw [byCells_length]; exact h0)
  cases hb
  exact cell_lt (hc 0 _ (List.getElem?_eq_getElem (by rw [byCells_length]; exact h0)))
theorem own_ge' {w : World} {base : Nat} {e : TypeId} {size n : Nat} {v : Value} {xs : List Value} (h : w.ownsRow base e size v n xs) (b2 : Nat) (hb : b2 ≤ base) : w.ownsRow b2 e size v n xs := by
  refine ⟨h.1, ?_⟩
  rcases h.2 with h | ⟨g, cap, cur, h1, h2, h3⟩
  · exact .inl h
  · exact .inr ⟨g, cap, cur, h1, by omega, h3⟩
theorem own_below {w W : World} {base : Nat} {e : TypeId} {size n : Nat} {v : Value} {xs : List Value} (h : w.ownsRow base e size v n xs) (hb : Below w.heap.size w W) : W.ownsRow base e size v n xs :=
  h.kept (grown_of_below' hb none) (by cases v.ownBlock <;> simp)
theorem effOk_bd {k m : Int} {n : Nat} (h : effOk k m n = true) : 1 ≤ k ∧ k ≤ 3 ∧ 0 ≤ m ∧ m ≤ 511 ∧ n ≤ 1000 := by
  simp only [effOk, Bool.and_eq_true, decide_eq_true_eq] at h
  obtain ⟨⟨⟨⟨h1, h2⟩, h3⟩, h4⟩, h5⟩ := h
  have e1 : effMode k ≤ 511 := by unfold effMode; split <;> omega
  have e2 : effBytes k ≤ 1000 := by unfold effBytes; split <;> omega
  omega
def effB (k m : Int) (xs : List UInt8) : List UInt8 := numB k.toNat ++ numB m.toNat ++ rawB xs
def effBs (k m : Int) (xs : List UInt8) : List UInt8 := if effOk k m xs.length then effB k m xs else []
set_option maxHeartbeats 4000000 in
set_option maxRecDepth 100000 in
theorem effect_Bytes (k m : Int) (A : Option Addr) (c : Nat) (xs : List UInt8) (w : World) (hx : ByS w (.slice A xs.length c) xs) (hn : xs.length ≤ 9223372036854775807) :
    Calls Tryz.prog 67 #[.agg #[.int .i64 k, .int .i64 m, .slice A xs.length c]] w fun e w' => (∃ v', e = .returned (.tuple #[v', .int .i64 (errOf (effOk k m xs.length))]) ∧ w'.ownsRow w.heap.size 5 1 v' (effBs k m xs).length (byCells (effBs k m xs))) ∧ Below w.heap.size w w' := by
  have hb0 := (Below.refl w.heap.size w).alloc (Nat.le_refl _) (.cells #[.int .i64 k, .int .i64 m, .slice A xs.length c] 36)
  by_cases hok : effOk k m xs.length = true
  · have hk : 1 ≤ k ∧ k ≤ 3 ∧ 0 ≤ m ∧ m ≤ 511 ∧ xs.length ≤ 1000 := by
      exact effOk_bd hok
    obtain ⟨k1, k2, k3, k4, k5⟩ := hk
    obtain ⟨kn, rfl⟩ := Int.eq_ofNat_of_zero_le (show 0 ≤ k by omega)
    obtain ⟨mn, rfl⟩ := Int.eq_ofNat_of_zero_le k3
    have E0 : Hid (errOf (effOk kn mn xs.length) = 0) := by rw [hok]; rfl
    have E1 : Hid (effBs kn mn xs = numB kn ++ numB mn ++ rawB xs) := by unfold effBs effB; rw [if_pos hok]; rfl
    clear hok
    have m1 := many_le kn (by omega); have m2 := many_le mn (by omega); have m3 := many_le xs.length (by omega)
    have L1 := Lib.hid (numB_length kn (by omega)); have L2 := Lib.hid (numB_length mn (by omega))
    go_enter Tryz.func67, Tryz.ntmps67
    have q0 := World.alloc_heap_new w (.cells #[.int .i64 (kn : Int), .int .i64 (mn : Int), .slice A xs.length c] 36)
    have Q0 := Lib.hid q0
    clear q0
    go_wp2_with fail
    refine (effect_Check _ _ _ _ _ hn _).mono ?_
    rw [E0.out]
    rintro e w1 ⟨rfl, hb1⟩
    go_wp2_with fail
    have hs1 := hb1.size
    rw [World.size_alloc] at hs1
    have q1 := (hb1.block w.heap.size (by simp)).trans Q0.out
    refine (wire_New w1).mono ?_
    rintro e w2 ⟨rfl, hW2, hb2⟩
    have q2 := (hb2.block w.heap.size (by omega)).trans q1
    have c0 := blk_cell q2 0; have c1 := blk_cell q2 1; have c2 := blk_cell q2 2
    simp at c0 c1 c2
    go_wp2_with fail
    refine (wire_Num w1.heap.size _ _ kn (by omega) w2 hW2 (by simp; omega)).mono ?_
    rintro e w3 ⟨rfl, ⟨v3, hW3, hK3⟩, hb3⟩
    have q3 := (hb3.block w.heap.size (by omega)).trans q2
    clear c0 c1 c2
    have c0 := blk_cell q3 0; have c1 := blk_cell q3 1; have c2 := blk_cell q3 2
    simp at c0 c1 c2
    go_wp2_with fail
    refine (wire_Num w1.heap.size _ _ mn (by omega) w3 hW3 (by rw [List.length_append, L1.out]; simp; omega)).mono ?_
    rintro e w4 ⟨rfl, ⟨v4, hW4, hK4⟩, hb4⟩
    have q4 := (hb4.block w.heap.size (by omega)).trans q3
    clear c0 c1 c2
    have c0 := blk_cell q4 0; have c1 := blk_cell q4 1; have c2 := blk_cell q4 2
    simp at c0 c1 c2
    go_wp2_with fail
    have hbw4 : Below w.heap.size w w4 := ((below_trans hb0 hb1).trans (hb2.mono (by omega))).trans ((hb3.trans hb4).mono (by omega))
    refine (wire_Raw w1.heap.size v4 _ A c xs w4 hW4 (by_keep (B := w1.heap.size) (hx.below hbw4) (Nat.le_refl _) (own_base' hW4.2.1) (fun b h1 h2 => Nat.lt_of_lt_of_le (hx.lt b h1 h2) (by omega))) (by omega) (by rw [List.length_append, List.length_append, L1.out, L2.out]; simp; omega)).mono ?_
    rintro e w5 ⟨rfl, ⟨v5, hW5, hK5⟩, hb5⟩
    go_wp2_with fail
    refine (wire_Out w1.heap.size v5 _ w5 hW5).mono ?_
    rintro e w6 ⟨⟨v6, rfl, ho6⟩, hb6⟩
    obtain ⟨A6, c6, rfl, -⟩ := own_row ho6
    go_wp2_with fail
    go_ret2
    have hbw5 : Below w.heap.size w w5 := hbw4.trans (hb5.mono (by omega))
    exact ⟨⟨_, by rw [E0.out]; rfl, by rw [E1.out]; simpa using own_ge' ho6 w.heap.size hbw5.size⟩, below_trans hbw5 hb6⟩
  · have hok' : effOk k m xs.length = false := by simpa using hok
    have E0 : Hid (errOf (effOk k m xs.length) = 2) := by rw [hok']; rfl
    have E1 : Hid (effBs k m xs = []) := by unfold effBs; rw [if_neg hok]; rfl
    clear hok hok'
    go_enter Tryz.func67, Tryz.ntmps67
    go_wp2_with (go_at_call 78; refine (effect_Check _ _ _ _ _ hn _).mono ?_; rw [E0.out]; rintro e w1 ⟨rfl, hb1⟩)
    go_ret2
    exact ⟨⟨_, by rw [E0.out]; rfl, by rw [E1.out]; exact World.ownsRow_nil _ _ _ _⟩, below_trans hb0 hb1⟩
end Go.Proofs.YtfdnobhedbglgaaGreatDoor
