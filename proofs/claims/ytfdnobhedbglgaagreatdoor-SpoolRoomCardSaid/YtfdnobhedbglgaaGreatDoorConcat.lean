import Derived.Test.YtfdnobhedbglgaaGreatDoorPast3
namespace Go.Proofs.YtfdnobhedbglgaaGreatDoor
open Go Go.RowKit Go.Shelf
set_option maxHeartbeats 4000000 in
set_option maxRecDepth 100000 in
theorem slices_Concat (B : Nat) (ps : List (Value × List UInt8)) (w : World)
    (hB : w.heap[B]? = some (.cells (ps.map (·.1)).toArray 34 (0, 0))) (hp : ∀ p ∈ ps, ByS w p.1 p.2) (h0 : 0 < lens ps) (hl : lens ps ≤ 1000000) (hps : ps.length ≤ 1000) :
    Calls Tryz.prog 91 #[.slice (some ⟨B, 0, none⟩) ps.length ps.length] w fun e w' => (∃ v', e = .returned v' ∧ w'.ownsRow w.heap.size 5 1 v' (cat ps).length (byCells (cat ps))) ∧ Below w.heap.size w w' := by
  obtain ⟨i0, hi, hz0, hz1, hz2⟩ := info_parts infoB
  have hbl := (Array.getElem?_eq_some_iff.1 hB).1
  go_enter Tryz.func91, Tryz.ntmps91
  go_wp2
  go_loop [3, 5, 11] (fun n _ i => ∃ k : Nat, k ≤ ps.length ∧ i = .int .i64 k ∧ n = .int .i64 ((lens (ps.take k) : Nat) : Int)) (fun _ _ i => ps.length - (intOf i).toNat)
  case atStart => exact ⟨0, Nat.zero_le _, rfl, by simp [lens]⟩
  case round =>
    obtain ⟨k, hk, rfl, rfl⟩ := hrel
    by_cases hlt : k < ps.length
    · have hck : w.cell? ⟨B, k, none⟩ = some (ps[k]).1 := by rw [blk_cell hB]; simp [hlt]
      obtain ⟨A2, c3, e2, hc3, hA3, hr3⟩ := hp ps[k] (List.getElem_mem hlt)
      rw [e2] at hck
      have hll := lens_le (ps := ps) k
      have hl2 := lens_le (ps := ps) (k + 1)
      have hlk := Lib.hid (lens_take hlt)
      have hlk2 : (ps[k]).2.length ≤ 1048576 := by have := hlk.out; omega
      go_wp2
      go_round
      case rel => exact ⟨k + 1, by omega, by simp, by rw [hlk.out]; simp⟩
      case measure => simp [intOf]; omega
    · obtain rfl : k = ps.length := by omega
      rw [List.take_length]
      go_wp2_with (go_at_call 102; refine (slices_Grow (lens ps) h0 hl _).mono ?_; rintro e w1 ⟨⟨v1, rfl, ho⟩, hb1⟩; obtain ⟨A1, c1, rfl, -⟩ := own_row ho)
      go_loopw [6, 8, 27] (fun out _ i wr => ∃ k : Nat, k ≤ ps.length ∧ i = .int .i64 k ∧ wr.ownsRow w.heap.size 5 1 out (lens (ps.take k)) (byCells (cat (ps.take k))) ∧ Below w.heap.size w wr) (fun _ _ i _ => ps.length - (intOf i).toNat)
      case atStart => exact ⟨0, Nat.zero_le _, rfl, by simpa [lens, cat, byCells] using ho, hb1⟩
      case round =>
        obtain ⟨k, hk, rfl, g2, hb⟩ := hrel
        obtain ⟨N, hN⟩ : ∃ N, lens (ps.take k) = N := ⟨_, rfl⟩
        rw [hN] at g2
        obtain ⟨A', c', rfl, -⟩ := own_row g2
        have HN := Lib.hid hN
        have hN1 : N ≤ lens (ps.take k) := by omega
        clear hN
        by_cases hlt : k < ps.length
        · have hBk : wr.heap[B]? = _ := (hb.block B hbl).trans hB
          have hck : wr.cell? ⟨B, k, none⟩ = some (ps[k]).1 := by rw [blk_cell hBk]; simp [hlt]
          obtain ⟨A2, c3, e2, hc3, hA3, hr3⟩ := (hp ps[k] (List.getElem_mem hlt)).below hb
          rw [e2] at hck
          have hll := lens_le (ps := ps) k
          have hl2 := lens_le (ps := ps) (k + 1)
          have hlk := Lib.hid (lens_take hlt)
          have hlk2 : (ps[k]).2.length + lens (ps.take k) ≤ lens ps := by have := hlk.out; omega
          have hct := Lib.hid (cat_take hlt)
          have hbase := own_base' g2; have hbs := hb.size
          have hE2 := Lib.hid (show lens (ps.take (k + 1)) = N + (ps[k]).2.length from by rw [hlk.out, HN.out])
          clear hB hp hBk e2
          cases A2 with
          | none =>
            obtain rfl := hA3 rfl
            have hz : (ps[k]).2.length = 0 := by omega
            have hzn := List.eq_nil_of_length_eq_zero hz
            rw [hz] at hck
            have HE := Lib.hid (show cat (ps.take (k + 1)) = cat (ps.take k) from by rw [hct.out, hzn]; simp)
            have HZ := Lib.hid hz
            clear hzn hz
            go_wp2_with (refine wpList_append_own_none rfl (.tmp 31) (.tmp 32) 34 rfl w.heap.size 5 i0 1 Tryz.underlying34 hi _ _ _ rfl g2 rfl ?_)
            go_roundw
            case rel => exact ⟨k + 1, by omega, by simp, by rw [hE2.out, HE.out, HZ.out]; exact g2, hb⟩
            case measure => simp [intOf]; omega
          | some ad =>
            go_wp2_with (refine wpList_append_own _ rfl (.tmp 31) (.tmp 32) 34 rfl w.heap.size 5 i0 (.int .u8 0) 1 1 Tryz.underlying34 hi hz0 hz1 hz2 rfl (by decide) _ _ _ rfl g2 ad (ps[k]).2.length _ (byCells (ps[k]).2) rfl ?_ hr3.adds (byCells_one _) ?_ ?_ ?_ ?_; (rw [byCells_length]; omega); (simp [maxLen]; omega); (omega); (omega); intro v2 w1 hown' hg _; obtain ⟨A4, c4, rfl, -⟩ := own_row hown')
            rw [← byCells_append, ← hct.out] at hown'
            go_roundw
            case rel => exact ⟨k + 1, by omega, by simp, by rw [hE2.out]; exact hown', hb.grown hg hbs (fun b e => hbase b e)⟩
            case measure => simp [intOf]; omega
        · obtain rfl : k = ps.length := by omega
          rw [List.take_length] at *
          go_wp2
          go_ret
          exact ⟨⟨_, rfl, by rw [cat_length, HN.out]; exact g2⟩, hb⟩
end Go.Proofs.YtfdnobhedbglgaaGreatDoor
