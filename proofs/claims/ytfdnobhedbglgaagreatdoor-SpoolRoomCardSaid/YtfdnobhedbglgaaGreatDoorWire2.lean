import Derived.Test.YtfdnobhedbglgaaGreatDoorWire1
namespace Go.Proofs.YtfdnobhedbglgaaGreatDoor
open Go Go.RowKit Go.Shelf
/-- A writer at block g, of which nothing is wrong: what was written. -/
def WrS (W : World) (g : Nat) (v : Value) (bs : List UInt8) : Prop :=
  W.heap[g]? = some (.cells #[.bool true, v, .int .i64 0] 127 (0, 0)) ∧ W.ownsRow g 5 1 v bs.length (byCells bs) ∧ bs.length ≤ 1048576
theorem WrS.keep {W W' : World} {g : Nat} {v : Value} {bs : List UInt8} (h : WrS W g v bs) (hb : Below W.heap.size W W') : WrS W' g v bs :=
  ⟨(hb.block g (Array.getElem?_eq_some_iff.1 h.1).1).trans h.1, h.2.1.kept (grown_of_below' hb none) (by cases v.ownBlock <;> simp), h.2.2⟩
set_option maxHeartbeats 1000000 in
theorem wire_New (w : World) : Calls Tryz.prog 69 #[] w fun e w' => e = .returned (.pointer (some ⟨w.heap.size, 0, none⟩)) ∧ WrS w' w.heap.size (.slice none 0 0) [] ∧ Below w.heap.size w w' := by
  go_enter Tryz.func69, Tryz.ntmps69
  go_wp2
  go_ret
  exact ⟨rfl, ⟨World.alloc_heap_new w _, World.ownsRow_nil _ _ _ _, by simp⟩, (Below.refl _ _).alloc (Nat.le_refl _) _⟩
def lens (ps : List (Value × List UInt8)) : Nat := (ps.map fun p => p.2.length).sum
def cat (ps : List (Value × List UInt8)) : List UInt8 := (ps.map fun p => p.2).flatten
theorem lens_take {ps : List (Value × List UInt8)} {k : Nat} (h : k < ps.length) : lens (ps.take (k + 1)) = lens (ps.take k) + (ps[k]).2.length := by
  rw [List.take_succ_eq_append_getElem h]; unfold lens; rw [List.map_append, List.sum_append]; simp
theorem cat_take {ps : List (Value × List UInt8)} {k : Nat} (h : k < ps.length) : cat (ps.take (k + 1)) = cat (ps.take k) ++ (ps[k]).2 := by
  rw [List.take_succ_eq_append_getElem h]; unfold cat; rw [List.map_append, List.flatten_append]; simp
theorem lens_le {ps : List (Value × List UInt8)} (k : Nat) : lens (ps.take k) ≤ lens ps := by
  have : lens ps = lens (ps.take k) + lens (ps.drop k) := by
    unfold lens; rw [← List.sum_append, ← List.map_append, List.take_append_drop]
  omega
theorem cat_length (ps : List (Value × List UInt8)) : (cat ps).length = lens ps := by
  simp only [cat, List.length_flatten, List.map_map, lens]; rfl
set_option maxHeartbeats 4000000 in
set_option maxRecDepth 100000 in
theorem wire_put (g B : Nat) (v : Value) (bs : List UInt8) (ps : List (Value × List UInt8)) (w : World) (hw : WrS w g v bs)
    (hB : w.heap[B]? = some (.cells (ps.map (·.1)).toArray 34 (0, 0))) (hp : ∀ p ∈ ps, ∀ W', KeepX g v.ownBlock w W' → ByS W' p.1 p.2) (hl : bs.length + lens ps ≤ 1048576) (hps : ps.length ≤ 1000) :
    Calls Tryz.prog 92 #[.pointer (some ⟨g, 0, none⟩), .slice (some ⟨B, 0, none⟩) ps.length ps.length] w fun e w' => e = .returned (.tuple #[]) ∧ (∃ v', WrS w' g v' (bs ++ cat ps) ∧ KeepX g v.ownBlock w w') ∧ Below g w w' := by
  obtain ⟨h1, h2, h3⟩ := hw
  have hBg : B ≠ g := by rintro rfl; rw [h1] at hB; simp at hB
  have c0 := blk_cell h1 0; have c1 := blk_cell h1 1; have c2 := blk_cell h1 2
  simp at c0 c1 c2
  obtain ⟨A, c, rfl, hc, hA, hr⟩ := own_row h2
  obtain ⟨i0, hi, hz0, hz1, hz2⟩ := info_parts infoB
  go_enter Tryz.func92, Tryz.ntmps92
  go_wp2
  go_loop [4, 6, 32] (fun n _ i => ∃ k : Nat, k ≤ ps.length ∧ i = .int .i64 k ∧ n = .int .i64 ((bs.length + lens (ps.take k) : Nat) : Int)) (fun _ _ i => ps.length - (intOf i).toNat)
  case atStart => exact ⟨0, Nat.zero_le _, rfl, by simp [lens]⟩
  case round =>
    obtain ⟨k, hk, rfl, rfl⟩ := hrel
    by_cases hlt : k < ps.length
    · have hck : w.cell? ⟨B, k, none⟩ = some (ps[k]).1 := by rw [blk_cell hB]; simp [hlt]
      obtain ⟨A2, c3, e2, hc3, hA3, hr3⟩ := hp ps[k] (List.getElem_mem hlt) w (KeepX.refl _ _ _)
      rw [e2] at hck
      have hll := lens_le (ps := ps) k
      have hl2 := lens_le (ps := ps) (k + 1)
      have hlk := Lib.hid (lens_take hlt)
      have hlk2 : (ps[k]).2.length ≤ 1048576 := by have := hlk.out; omega
      go_wp2
      go_round
      case rel => exact ⟨k + 1, by omega, by simp, by rw [hlk.out]; simp; omega⟩
      case measure => simp [intOf]; omega
    · obtain rfl : k = ps.length := by omega
      rw [List.take_length]
      have hbl := (Array.getElem?_eq_some_iff.1 hB).1
      go_wp2
      go_loopw [8, 48] (fun _ i wr => ∃ (k : Nat) (v' : Value), k ≤ ps.length ∧ i = .int .i64 k ∧ WrS wr g v' (bs ++ cat (ps.take k)) ∧ KeepX g (Value.slice A bs.length c).ownBlock w wr ∧ Below g w wr ∧ (∀ b, v'.ownBlock = some b → b < w.heap.size → some b = (Value.slice A bs.length c).ownBlock)) (fun _ i _ => ps.length - (intOf i).toNat)
      case atStart => exact ⟨0, _, Nat.zero_le _, rfl, by simpa [cat] using (show WrS w g (Value.slice A bs.length c) bs from ⟨h1, h2, h3⟩), KeepX.refl _ _ _, Below.refl _ _, fun b e _ => e.symm⟩
      case round =>
        obtain ⟨k, v', hk, rfl, hW, hK, hb, hrow⟩ := hrel
        obtain ⟨g1, g2, g3⟩ := hW
        obtain ⟨A', c', rfl, -⟩ := own_row g2
        have hNl : (bs ++ cat (ps.take k)).length = bs.length + lens (ps.take k) := by rw [List.length_append, cat_length]
        obtain ⟨N, hN⟩ : ∃ N, (bs ++ cat (ps.take k)).length = N := ⟨_, rfl⟩
        rw [hN] at g1 g2 g3 hrow hNl
        have HN := Lib.hid hN
        have HNl := Lib.hid hNl
        have hN1 : N ≤ bs.length + lens (ps.take k) := by omega
        clear hN hNl
        by_cases hlt : k < ps.length
        · have hBk : wr.heap[B]? = _ := (hK.2 B hbl hBg (by intro e; exact blk_ne hB h2 (by decide) e.symm)).trans hB
          have hck : wr.cell? ⟨B, k, none⟩ = some (ps[k]).1 := by rw [blk_cell hBk]; simp [hlt]
          obtain ⟨A2, c3, e2, hc3, hA3, hr3⟩ := hp ps[k] (List.getElem_mem hlt) wr hK
          rw [e2] at hck
          have d1 := blk_cell g1 1; have f1 := blk_free g1 1
          simp at d1
          have hll := lens_le (ps := ps) k
          have hl2 := lens_le (ps := ps) (k + 1)
          have hlk := Lib.hid (lens_take hlt)
          have hlk2 : (ps[k]).2.length + lens (ps.take k) ≤ lens ps := by have := hlk.out; omega
          have hbase := own_base' g2
          have hgl := (Array.getElem?_eq_some_iff.1 g1).1
          have hgn := blk_ne g1 g2 (by decide)
          have hct := Lib.hid (cat_take hlt)
          have hKr := Lib.hid hrow
          have fin : ∀ (v2 : Value) (w2 : World), w2.heap[g]? = some (.cells #[.bool true, (Value.slice A' N c'), .int .i64 0] 127 (0, 0)) → w2.ownsRow g 5 1 v2 (N + (ps[k]).2.length) (byCells (bs ++ cat (ps.take (k + 1)))) → KeepX g (Value.slice A bs.length c).ownBlock w w2 → Below g w w2 → (∀ b, v2.ownBlock = some b → b < w.heap.size → some b = (Value.slice A bs.length c).ownBlock) →
              WrS (w2.setCell ⟨g, 1, none⟩ v2) g v2 (bs ++ cat (ps.take (k + 1))) ∧ KeepX g (Value.slice A bs.length c).ownBlock w (w2.setCell ⟨g, 1, none⟩ v2) ∧ Below g w (w2.setCell ⟨g, 1, none⟩ v2) := by
            intro v2 w2 q1 q2 q3 q4 q5
            have e1 : N + (ps[k]).2.length = (bs ++ cat (ps.take (k + 1))).length := by rw [List.length_append, cat_length, hlk.out, HNl.out]; omega
            rw [e1] at q2
            refine ⟨⟨by simpa using blk_set q1 1 v2, q2.kept (grown_set _ _ _ _) (.inr (blk_ne q1 q2 (by decide))), ?_⟩, q3.grown (grown_set _ _ _ _) (fun b e _ => .inl (by cases e; rfl)), q4.setCell (p := ⟨g, 1, none⟩) (Nat.le_refl _) _⟩
            rw [List.length_append, cat_length]; omega
          have FIN := Lib.hid fin
          clear fin hrow hB hp hBk e2 c0 c1 c2
          cases A2 with
          | none =>
            obtain rfl := hA3 rfl
            have hz : (ps[k]).2.length = 0 := by omega
            have hzn := List.eq_nil_of_length_eq_zero hz
            rw [hz] at hck
            have hE : bs ++ cat (ps.take (k + 1)) = bs ++ cat (ps.take k) := by rw [hct.out, hzn]; simp
            have HE := Lib.hid hE
            have HZ := Lib.hid hz
            clear hE hzn hz
            go_wp2_with (refine wpList_append_own_none rfl (.tmp 56) (.tmp 57) 34 rfl g 5 i0 1 Tryz.underlying34 hi _ _ _ rfl g2 rfl ?_)
            go_roundw
            case rel =>
              obtain ⟨r1, r2, r3⟩ := FIN.out _ wr g1 (by rw [HZ.out, HE.out]; exact g2) hK hb hKr.out
              exact ⟨k + 1, _, by omega, by simp, r1, r2, r3, hKr.out⟩
            case measure => simp [intOf]; omega
          | some ad =>
            go_wp2_with (refine wpList_append_own_at _ rfl (.tmp 56) (.tmp 57) 34 rfl g 5 i0 (.int .u8 0) 1 1 Tryz.underlying34 hi hz0 hz1 hz2 rfl (by decide) _ _ _ rfl g2 ad (ps[k]).2.length _ (byCells (ps[k]).2) rfl ?_ hr3.adds (byCells_one _) ?_ ?_ ?_ ?_; (rw [byCells_length]; omega); (simp [maxLen]; omega); (omega); (omega); intro v2 w1 hown' hg _ hat; have hat' : v2.ownBlock = (Value.slice A' N c').ownBlock ∨ v2.ownBlock = some wr.heap.size := hat; clear hat; have hg' : wr.grownBy w1 (Value.slice A' N c').ownBlock := hg; obtain ⟨A4, c4, rfl, -⟩ := own_row hown'; have q1 : w1.heap[g]? = some (.cells #[.bool true, (Value.slice A' N c'), .int .i64 0] 127 (0, 0)) := (hg'.block g hgl (Ne.symm hgn)).trans g1; have q2 := blk_cell q1 1; have q3 := blk_free q1 1; simp at q2)
            have e2 : byCells (bs ++ cat (ps.take k)) ++ byCells (ps[k]).2 = byCells (bs ++ cat (ps.take (k + 1))) := by rw [← byCells_append, hct.out, List.append_assoc]
            rw [e2] at hown'
            have hwl := hK.1
            have HAT := Lib.hid (fun b (e : (Value.slice A4 (N + (ps[k]).2.length) c4).ownBlock = some b) (hlt : b < w.heap.size) => show some b = (Value.slice A bs.length c).ownBlock from by
              rcases hat' with h | h
              · exact hKr.out b (h ▸ e) hlt
              · rw [h] at e; cases e; omega)
            obtain ⟨r1, r2, r3⟩ := FIN.out _ w1 q1 hown' (hK.grown hg' (fun b e hlt => .inr (hKr.out b e hlt))) (hb.grown hg' (by omega) (fun b e => hbase b e)) HAT.out
            go_roundw
            case rel => exact ⟨k + 1, _, by omega, by simp, r1, r2, r3, HAT.out⟩
            case measure => simp [intOf]; omega
        · obtain rfl : k = ps.length := by omega
          rw [List.take_length] at *
          go_wp2
          go_end0
          exact ⟨rfl, ⟨_, ⟨g1, by rw [HN.out]; exact g2, by rw [HN.out]; exact g3⟩, hK⟩, hb⟩
end Go.Proofs.YtfdnobhedbglgaaGreatDoor
