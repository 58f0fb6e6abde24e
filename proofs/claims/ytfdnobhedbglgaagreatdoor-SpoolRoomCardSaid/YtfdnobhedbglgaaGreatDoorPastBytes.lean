import Derived.Test.YtfdnobhedbglgaaGreatDoorConcat
import Derived.Deep.RegionHeld3
namespace Go.Proofs.YtfdnobhedbglgaaGreatDoor
open Go Go.RowKit Go.Shelf
def spB (x : Sp) : List UInt8 := [UInt8.ofNat (x.n % 256).toNat] ++ fourB x.f ++ fourB x.t
def pastPre (n : Int) (xs : List Sp) : List UInt8 := (fourB n).drop 2 ++ xs.flatMap spB
def pastB (xs : List Sp) : List UInt8 := pastPre xs.length xs
def pastBs (xs : List Sp) : List UInt8 := if pastOk xs then pastB xs else []
theorem pastPre_length (n : Int) (xs : List Sp) : (pastPre n xs).length = 2 + 9 * xs.length := by
  unfold pastPre
  rw [List.length_append, List.length_flatMap]
  have : (xs.map fun x => (spB x).length).sum = 9 * xs.length := by
    induction xs with
    | nil => rfl
    | cons x l ih => rw [List.map_cons, List.sum_cons, ih]; simp [spB, fourB]; omega
  rw [this]; simp [fourB]
/-- Bytes at a place that is new. -/
def NewBy (B : Nat) (W : World) (v : Value) (xs : List UInt8) : Prop := ByS W v xs ∧ ∀ b, v.ownBlock = some b → B ≤ b
theorem NewBy.below {B : Nat} {W W' : World} {v : Value} {xs : List UInt8} (h : NewBy B W v xs) (hb : Below W.heap.size W W') : NewBy B W' v xs := ⟨h.1.below hb, h.2⟩
theorem pastOk_len {xs : List Sp} (h : pastOk xs = true) : xs.length ≤ 4000 := by
  simp [pastOk] at h; omega
theorem keep3 {W W' : World} {g : Nat} {a b c : Value} (hb : Below W.heap.size W W') (h : W.cell? ⟨g, 0, none⟩ = some a ∧ W.cell? ⟨g, 1, none⟩ = some b ∧ W.cell? ⟨g, 2, none⟩ = some c) :
    W'.cell? ⟨g, 0, none⟩ = some a ∧ W'.cell? ⟨g, 1, none⟩ = some b ∧ W'.cell? ⟨g, 2, none⟩ = some c :=
  ⟨((bcell hb).1 _ _ (cell_lt h.1)).trans h.1, ((bcell hb).1 _ _ (cell_lt h.1)).trans h.2.1, ((bcell hb).1 _ _ (cell_lt h.1)).trans h.2.2⟩
theorem slices_Concat' (xs : List UInt8) (B : Nat) (ps : List (Value × List UInt8)) (w : World)
    (hB : w.heap[B]? = some (.cells (ps.map (·.1)).toArray 34 (0, 0))) (hp : ∀ p ∈ ps, ByS w p.1 p.2) (h0 : 0 < lens ps) (hl : lens ps ≤ 1000000) (hps : ps.length ≤ 1000) (hxs : cat ps = xs) :
    Calls Tryz.prog 91 #[.slice (some ⟨B, 0, none⟩) ps.length ps.length] w fun e w' => (∃ v', e = .returned v' ∧ w'.ownsRow w.heap.size 5 1 v' xs.length (byCells xs)) ∧ Below w.heap.size w w' := by
  subst hxs; exact slices_Concat B ps w hB hp h0 hl hps
theorem lit_by (W : World) (m : Int) (g : Nat) (hg : g = W.heap.size) : ByS (W.alloc (.cells #[.int .u8 (IntKind.u8.wrap m)] 5)) (.slice (some ⟨g, 0, none⟩) 1 1) [UInt8.ofNat (m % 256).toNat] := by
  subst hg
  have hw : IntKind.u8.wrap m = m % 256 := by simp [IntKind.wrap, IntKind.bits, IntKind.signed]
  rw [hw]
  refine ⟨_, _, rfl, by simp, by simp, fun _ => ⟨_, _, rfl, fun j u hu => ?_⟩⟩
  rw [blk_cell (World.alloc_heap_new W _), ← hu]
  show (#[Value.int .u8 (m % 256)])[0 + j]? = ([Value.int .u8 (((UInt8.ofNat (m % 256).toNat).toNat : Nat) : Int)])[j]?
  rw [ofNat_int]; simp
theorem fin_row {w wr W wc : World} {v : Value} {xs : List UInt8} (hb : Below w.heap.size w wr) (h3 : Below wr.heap.size wr W) (hbc : Below W.heap.size W wc) (hoc : wc.ownsRow W.heap.size 5 1 v xs.length (byCells xs)) :
    NewBy w.heap.size wc v xs ∧ Below w.heap.size w wc :=
  ⟨⟨own_by hoc, fun b e => by have h1 := own_base' hoc b e; have := h3.size; have := hb.size; omega⟩, below_trans (below_trans hb h3) hbc⟩
theorem lit_below {W W' : World} {m : Int} {g : Nat} (hb : Below (W.alloc (.cells #[.int .u8 (IntKind.u8.wrap m)] 5)).heap.size (W.alloc (.cells #[.int .u8 (IntKind.u8.wrap m)] 5)) W') (hg : g = W.heap.size) :
    ByS W' (.slice (some ⟨g, 0, none⟩) 1 1) [UInt8.ofNat (m % 256).toNat] := (lit_by W m g hg).below hb
theorem pastPre_next (n : Int) {xs : List Sp} {k : Nat} (h : k < xs.length) : pastPre n (xs.take (k + 1)) = pastPre n (xs.take k) ++ spB (xs.getD k zSp) := by
  rw [List.take_succ_eq_append_getElem h]
  simp only [pastPre, List.flatMap_append, List.flatMap_singleton, List.append_assoc]
  simp [List.getD, h]
theorem below_drew {w W : World} (h : Below w.heap.size w W) : Below w.heap.size w W.drew := below_drewN h 1
theorem below_alloc {w W : World} (h : Below w.heap.size w W) (ob : Obj) : Below w.heap.size w (W.alloc ob) := h.alloc h.size ob
set_option maxHeartbeats 4000000 in
set_option maxRecDepth 100000 in
theorem past_Bytes (A : Option Addr) (c : Nat) (xs : List Sp) (w : World) (hx : RowAt w A (spCells xs)) (hn : xs.length ≤ 4611686018427387904) :
    Calls Tryz.prog 68 #[.slice A xs.length c] w fun e w' => (∃ v', e = .returned (.tuple #[v', .int .i64 (errOf (pastOk xs))]) ∧ NewBy w.heap.size w' v' (pastBs xs)) ∧ Below w.heap.size w w' := by
  have hsp := spAt_of_row hx
  by_cases hok : pastOk xs = true
  · have hk := pastOk_len hok
    have E0 : Hid (errOf (pastOk xs) = 0) := by rw [hok]; rfl
    have E1 : Hid (pastBs xs = pastPre xs.length xs) := by unfold pastBs pastB; rw [if_pos hok]; rfl
    clear hok
    go_enter Tryz.func68, Tryz.ntmps68
    go_wp2_with fail
    refine (past_Check _ _ _ _ hsp hn).mono ?_
    rw [E0.out]
    rintro e w1 ⟨rfl, hb1⟩
    go_wp2_with fail
    refine (past_four (xs.length : Int) w1).mono ?_
    rintro e w2 ⟨⟨v2, rfl, ho2⟩, hb2⟩
    have hfl : (fourB xs.length).length = 4 := rfl
    have hbase2 := own_base' ho2
    obtain ⟨A2, c2, rfl, h2, -, hr2⟩ := own_row ho2
    obtain ⟨b2, o2, rfl, hc2⟩ := hr2 (by rw [byCells_length]; simp [fourB])
    have hb12 := below_trans hb1 hb2
    have hN2 : NewBy w.heap.size w2 (.slice (some ⟨b2, o2 + 2, none⟩) 2 (c2 - 2)) (pastPre xs.length []) := by
      refine ⟨⟨_, _, rfl, by simp [pastPre, fourB]; omega, by simp, fun _ => ⟨_, _, rfl, fun j u hu => ?_⟩⟩, fun b e => ?_⟩
      · rw [Nat.add_assoc]
        refine hc2 (2 + j) u ?_
        rw [← hu]; simp [pastPre, byCells]
      · have := hbase2 b e; have := hb1.size; omega
    clear hc2 hbase2
    go_wp2
    go_loopw [5, 7, 19] (fun v _ i wr => ∃ k : Nat, k ≤ xs.length ∧ i = .int .i64 k ∧ NewBy w.heap.size wr v (pastPre xs.length (xs.take k)) ∧ Below w.heap.size w wr) (fun _ _ i _ => xs.length - (intOf i).toNat)
    case atStart => exact ⟨0, Nat.zero_le _, rfl, by simpa using hN2, hb12⟩
    case round =>
      obtain ⟨k, hk, rfl, hN, hb⟩ := hrel
      by_cases hlt : k < xs.length
      · obtain ⟨b, o, rfl, hc⟩ := (hsp.below hb) (by omega)
        obtain ⟨h1, h2, h3⟩ := hc k hlt
        generalize hxk : xs.getD k zSp = x at h1 h2 h3
        obtain ⟨⟨A3, c3, rfl, h31, h32, h33⟩, hnb⟩ := hN
        obtain ⟨N, hN⟩ : ∃ N, (pastPre xs.length (xs.take k)).length = N := ⟨_, rfl⟩
        rw [hN] at hnb h31
        have HN := Lib.hid hN
        have hN1 := pastPre_length xs.length (xs.take k)
        rw [List.length_take, hN] at hN1
        have hN2 : N ≤ 100000 := by omega
        rw [hN]
        clear hN hN1 hc hx hsp hfl ho2 hr2
        have HNB := Lib.hid hnb
        have H33 := Lib.hid h33
        have HXK := Lib.hid hxk
        clear hnb h33 hxk
        go_wp2
        go_region_held3 (fun W => W.cell? ⟨wr.heap.size, 0, none⟩ = some (.int .i64 x.n) ∧ W.cell? ⟨wr.heap.size, 1, none⟩ = some (.int .i64 x.f) ∧ W.cell? ⟨wr.heap.size, 2, none⟩ = some (.int .i64 x.t)) ((first | exact keep3 hbc (by assumption) | exact keep3 hbt (by assumption) | exact keep3 hbf (by assumption) | exact keep3 (below_alloc (Below.refl _ _) _) (by assumption) | (simp [go_sem])))
          (first
            | (have _hh := hbf; go_at_call 90; refine (past_four _ _).mono ?_; rintro e wt ⟨⟨vt, rfl, hot⟩, hbt⟩; obtain ⟨At, ct, rfl, -⟩ := own_row hot)
            | (go_at_call 90; refine (past_four _ _).mono ?_; rintro e wf ⟨⟨vf, rfl, hof⟩, hbf⟩; obtain ⟨Af, cf, rfl, -⟩ := own_row hof)
            | (go_at_call 91
               refine (slices_Concat' (pastPre xs.length (xs.take (k + 1))) _ [(Value.slice A3 N c3, pastPre xs.length (xs.take k)), (_, [UInt8.ofNat (x.n % 256).toNat]), (Value.slice Af 4 cf, fourB x.f), (Value.slice At 4 ct, fourB x.t)] _ (by first | exact World.alloc_heap_new _ _ | simpa using World.alloc_heap_new (wt.alloc _) _) ?_ ?_ ?_ ?_ ?_).mono ?_
               · intro p hp
                 simp only [List.mem_cons, List.not_mem_nil, or_false] at hp
                 rcases hp with rfl | rfl | rfl | rfl
                 · refine ByS.below (W := wr) ⟨_, _, by rw [HN.out], by rw [HN.out]; exact h31, h32, H33.out⟩ ?_
                   repeat first | exact Below.refl _ _ | refine below_alloc ?_ _ | refine below_drew ?_ | refine below_trans ?_ hbt | refine below_trans ?_ hbf
                 · apply lit_below
                   repeat first | exact Below.refl _ _ | refine below_alloc ?_ _ | refine below_drew ?_ | refine below_trans ?_ hbt | refine below_trans ?_ hbf
                   simp
                 · refine (own_by hof).below ?_
                   repeat first | exact Below.refl _ _ | refine below_alloc ?_ _ | refine below_drew ?_ | refine below_trans ?_ hbt | refine below_trans ?_ hbf
                 · refine (own_by hot).below ?_
                   repeat first | exact Below.refl _ _ | refine below_alloc ?_ _ | refine below_drew ?_ | refine below_trans ?_ hbt | refine below_trans ?_ hbf
               · simp [lens, fourB]
               · simp [lens, fourB, HN.out]; omega
               · simp
               · rw [pastPre_next _ hlt, HXK.out]; simp [cat, spB]
               rintro e wc ⟨⟨vc, rfl, hoc⟩, hbc⟩; obtain ⟨Ac, cc, rfl, -⟩ := own_row hoc))
        all_goals
          go_wp2
          have hfin := fin_row hb (by repeat first | exact Below.refl _ _ | refine below_alloc ?_ _ | refine below_drew ?_ | refine below_trans ?_ hbt | refine below_trans ?_ hbf) hbc hoc
          go_roundw
          case rel => exact ⟨k + 1, by omega, by simp, hfin.1, hfin.2⟩
          case measure => simp [intOf]; omega
      · obtain rfl : k = xs.length := by omega
        rw [List.take_length] at *
        obtain ⟨⟨A3, c3, rfl, h31, h32, h33⟩, hnb⟩ := hN
        obtain ⟨N, hN⟩ : ∃ N, (pastPre xs.length xs).length = N := ⟨_, rfl⟩
        rw [hN] at hnb h31
        have HN := Lib.hid hN
        rw [hN]
        clear hN
        go_wp2
        go_ret2
        exact ⟨⟨.slice A3 N c3, by rw [E0.out]; rfl, by rw [E1.out]; exact ⟨⟨_, _, by rw [HN.out], by rw [HN.out]; exact h31, h32, h33⟩, hnb⟩⟩, hb⟩
  · have hok' : pastOk xs = false := by simpa using hok
    have E0 : Hid (errOf (pastOk xs) = 2) := by rw [hok']; rfl
    have E1 : Hid (pastBs xs = []) := by unfold pastBs; rw [if_neg hok]; rfl
    clear hok hok'
    go_enter Tryz.func68, Tryz.ntmps68
    go_wp2_with (go_at_call 79; refine (past_Check _ _ _ _ hsp hn).mono ?_; rw [E0.out]; rintro e w1 ⟨rfl, hb1⟩)
    go_ret2
    exact ⟨⟨.slice none 0 0, by rw [E0.out]; rfl, by rw [E1.out]; exact ⟨⟨none, 0, rfl, by simp, by simp, fun h => absurd h (by simp [byCells])⟩, fun b e => by simp [Value.ownBlock] at e⟩⟩, hb1⟩
end Go.Proofs.YtfdnobhedbglgaaGreatDoor
