import Derived.Test.YtfdnobhedbglgaaGreatDoorSpool9
import Derived.Laws.BytesString
import Derived.StillTailTactics
import Derived.Laws.IdiomStrings
namespace Go.Proofs.YtfdnobhedbglgaaGreatDoor
open Go Go.RowKit Go.Shelf
def longEv (e : Ev) : Bool := decide (100 < e.path.size) || decide (1200 < e.bytes.length) || decide (100 < e.past.length)
theorem longEv_short {e : Ev} (h : longEv e = false) : e.short := by
  simp [longEv] at h
  exact ⟨by omega, by omega, by omega⟩
set_option maxHeartbeats 1000000 in
theorem kit_LongEffect (k m : Int) (A : Option Addr) (n c : Nat) (w : World) : Calls Tryz.prog 49 #[.agg #[.int .i64 k, .int .i64 m, .slice A n c]] w fun x w' => x = .returned (.bool (decide (1200 < (n : Int)))) ∧ Below w.heap.size w w' := by
  go_enter Tryz.func49, Tryz.ntmps49
  go_wp2
  go_ret
  exact ⟨rfl, below_alloc (Below.refl _ _) _⟩
set_option maxHeartbeats 2000000 in
set_option maxRecDepth 100000 in
theorem kit_LongEvents (e : Ev) (A : Option Addr) (c : Nat) (B : Option Addr) (d : Nat) (b : Nat) (w : World) (h : w.heap[b]? = some (.cells #[.int .i64 e.node, .int .i64 e.seq, .string e.path, .int .i64 e.kind, .int .i64 e.mode, .slice A e.bytes.length c, .slice B e.past.length d] 39 (0, 0))) :
    Calls Tryz.prog 25 #[.slice (some ⟨b, 0, none⟩) 1 1, .int .i64 1] w fun x w' => x = .returned (.bool (longEv e)) ∧ Below w.heap.size w w' := by
  have hbl := (Array.getElem?_eq_some_iff.1 h).1
  go_enter Tryz.func25, Tryz.ntmps25
  go_wp2
  go_loopw [5] (fun i wr => ((i = .int .i64 0) ∨ (i = .int .i64 1 ∧ longEv e = false)) ∧ Below w.heap.size w wr) (fun i _ => 1 - (intOf i).toNat)
  case atStart => exact ⟨.inl rfl, Below.refl _ _⟩
  case round =>
    obtain ⟨hi, hb⟩ := hrel
    have h2 := (hb.block b hbl).trans h
    have e0 := blk_cell h2 0; have e1 := blk_cell h2 1; have e2 := blk_cell h2 2; have e3 := blk_cell h2 3; have e4 := blk_cell h2 4; have e5 := blk_cell h2 5; have e6 := blk_cell h2 6
    simp at e0 e1 e2 e3 e4 e5 e6
    rcases hi with rfl | ⟨rfl, hl⟩
    · by_cases h1 : 100 < (e.path.size : Int)
      · have E := Lib.hid (show longEv e = true from by simp [longEv, show 100 < e.path.size by omega])
        go_wp2
        go_ret
        exact ⟨by rw [E.out]; rfl, hb⟩
      · by_cases h3 : 1200 < (e.bytes.length : Int)
        · have E := Lib.hid (show longEv e = true from by simp [longEv, show 1200 < e.bytes.length by omega])
          go_wp2_with (go_at_call 49; refine (kit_LongEffect _ _ _ _ _ _).mono ?_; rintro x w1 ⟨rfl, hb1⟩)
          go_ret
          exact ⟨by rw [E.out]; rfl, below_trans hb hb1⟩
        · have hd := hb.size
          by_cases h4 : 100 < (e.past.length : Int)
          · have E := Lib.hid (show longEv e = true from by simp [longEv, show 100 < e.past.length by omega])
            go_wp2_with (go_at_call 49; refine (kit_LongEffect _ _ _ _ _ _).mono ?_; rintro x w1 ⟨rfl, hb1⟩; have e6' := blk_cell ((hb1.block b (by omega)).trans h2) 6; simp at e6')
            go_ret
            exact ⟨by rw [E.out]; rfl, below_trans hb hb1⟩
          · have E := Lib.hid (show longEv e = false from by simp [longEv]; omega)
            go_wp2_with (go_at_call 49; refine (kit_LongEffect _ _ _ _ _ _).mono ?_; rintro x w1 ⟨rfl, hb1⟩; have e6' := blk_cell ((hb1.block b (by omega)).trans h2) 6; simp at e6')
            exact ⟨⟨.inr ⟨rfl, E.out⟩, below_trans hb hb1⟩, by simp [intOf]⟩
    · have E := Lib.hid hl
      clear hl
      go_wp2
      go_ret
      exact ⟨by rw [E.out]; rfl, hb⟩
theorem conv_str {w : World} {A : Option Addr} {c : Nat} {xs : List UInt8} (h : ByS w (.slice A xs.length c) xs) : (convert 34 9 (.slice A xs.length c)).run Tryz.prog w = .ok (.string ⟨xs.toArray⟩) w := by
  obtain ⟨A', c', e, -, hA, hr⟩ := h
  cases e
  cases A with
  | none =>
    have h0 := hA rfl
    have hx : xs = [] := by
      cases xs with
      | nil => rfl
      | cons x l => obtain ⟨b, o, e, -⟩ := hr (by simp [byCells]); cases e
    subst hx
    show (convert 34 9 (.slice none 0 c)).run Tryz.prog w = _
    rw [h0]
    refine (run_convert_bytes_string w 34 9 5 none 0 0 Tryz.underlying34 Tryz.underlying5 Tryz.underlying9).trans ?_
    simp [Conv.bytesToString, go_sem]
    rfl
  | some a =>
    refine run_convert_bytes_back w 34 9 5 a c xs Tryz.underlying34 Tryz.underlying5 Tryz.underlying9 fun j hj => ?_
    exact hr.adds j _ (by simp [byCells, hj])
set_option maxHeartbeats 1000000 in
theorem kit_SameBytes (A B : Option Addr) (c d : Nat) (xs : List UInt8) (w : World) (ha : ByS w (.slice A xs.length c) xs) (hb : ByS w (.slice B xs.length d) xs) : Calls Tryz.prog 66 #[.slice A xs.length c, .slice B xs.length d] w fun x w' => x = .returned (.bool true) ∧ Below w.heap.size w w' := by
  have h1 := conv_str ha; have h2 := conv_str hb
  go_enter Tryz.func66, Tryz.ntmps66
  go_wp2
  go_ret
  exact ⟨rfl, Below.refl _ _⟩
set_option maxHeartbeats 1000000 in
theorem kit_SameEffect (k m : Int) (A B : Option Addr) (c d : Nat) (xs : List UInt8) (w : World) (ha : ByS w (.slice A xs.length c) xs) (hb : ByS w (.slice B xs.length d) xs) : Calls Tryz.prog 42 #[.agg #[.int .i64 k, .int .i64 m, .slice A xs.length c], .agg #[.int .i64 k, .int .i64 m, .slice B xs.length d]] w fun x w' => x = .returned (.bool true) ∧ Below w.heap.size w w' := by
  have h2 := Lib.hid (two_new w (.cells #[.int .i64 k, .int .i64 m, .slice A xs.length c] 36) (.cells #[.int .i64 k, .int .i64 m, .slice B xs.length d] 36))
  go_enter Tryz.func42, Tryz.ntmps42
  go_wp2_with (go_at_call 66; refine (kit_SameBytes _ _ _ _ xs _ (ha.below h2.out.2.1) (hb.below h2.out.2.1)).mono ?_; rintro x w1 ⟨rfl, hb1⟩)
  go_ret
  exact ⟨rfl, below_trans h2.out.2.1 hb1⟩
theorem neq_span (a b c : Int) (w : World) : (binOp .neq 95 (.agg #[.int .i64 a, .int .i64 b, .int .i64 c]) (.agg #[.int .i64 a, .int .i64 b, .int .i64 c])).run Tryz.prog w = .ok (.bool false) w := by
  have hu := Tryz.underlying95
  simp only [binOp]
  simp [go_sem, Op.equal, Op.maxDepth, hu]
set_option maxHeartbeats 2000000 in
theorem kit_SameSpans (A B : Option Addr) (c d : Nat) (xs : List Sp) (w : World) (ha : SpAt w A xs) (hb : SpAt w B xs) (hn : xs.length ≤ 1000000) : Calls Tryz.prog 43 #[.slice A xs.length c, .slice B xs.length d] w fun x w' => x = .returned (.bool true) ∧ Below w.heap.size w w' := by
  go_enter Tryz.func43, Tryz.ntmps43
  go_wp2
  go_loopw [5] (fun i wr => (∃ k : Nat, k ≤ xs.length ∧ i = .int .i64 k) ∧ Below w.heap.size w wr) (fun i _ => xs.length - (intOf i).toNat)
  case atStart => exact ⟨⟨0, Nat.zero_le _, rfl⟩, Below.refl _ _⟩
  case round =>
    obtain ⟨⟨k, hk, rfl⟩, hbw⟩ := hrel
    by_cases hlt : k < xs.length
    · obtain ⟨b1, o1, rfl, hc1⟩ := (ha.below hbw) (by omega)
      obtain ⟨b2, o2, rfl, hc2⟩ := (hb.below hbw) (by omega)
      obtain ⟨x1, x2, x3⟩ := hc1 k hlt
      obtain ⟨y1, y2, y3⟩ := hc2 k hlt
      generalize xs.getD k zSp = sp at x1 x2 x3 y1 y2 y3
      clear hc1 hc2 ha hb
      have hne := neq_span sp.n sp.f sp.t
      have hb1 : (0 : Int) ≤ (k : Int) := by omega
      have hb2 : (k : Int) < (xs.length : Int) := by omega
      have htn : ((k : Int)).toNat = k := by simp
      go_wp2
      go_quiet (fail)
      clear htn
      go_wp2
      exact ⟨⟨⟨k + 1, by omega, by simp⟩, below_drewN hbw _⟩, by simp [intOf]; omega⟩
    · obtain rfl : k = xs.length := by omega
      go_wp2
      go_ret
      exact ⟨rfl, hbw⟩
theorem eql_dot' (a b : Int) (w : World) : (binOp .eql 33 (.agg #[.int .i64 a, .int .i64 b]) (.agg #[.int .i64 a, .int .i64 b])).run Tryz.prog w = .ok (.bool true) w := by
  rw [eql_dot]; simp
set_option maxHeartbeats 4000000 in
set_option maxRecDepth 100000 in
theorem kit_SameEvent (e : Ev) (u v : Value) (w : World) (hu : EvAt w e u) (hv : EvAt w e v) (hs : e.short) : Calls Tryz.prog 14 #[u, v] w fun x w' => x = .returned (.bool true) ∧ Below w.heap.size w w' := by
  obtain ⟨A, c, B, d, rfl, h1, h2⟩ := hu
  obtain ⟨A', c', B', d', rfl, h1', h2'⟩ := hv
  obtain ⟨s1, s2, s3⟩ := hs
  obtain ⟨node, seq, path, kind, mode, xs, ps⟩ := e
  dsimp only at h1 h2 h1' h2' s1 s2 s3
  have HP := Lib.hid (two_new w (.cells #[.int .i64 node, .int .i64 seq, .string path, .int .i64 kind, .int .i64 mode, .slice A xs.length c, .slice B ps.length d] 39) (.cells #[.int .i64 node, .int .i64 seq, .string path, .int .i64 kind, .int .i64 mode, .slice A' xs.length c', .slice B' ps.length d'] 39))
  have heq := eql_dot' node seq
  go_enter Tryz.func14, Tryz.ntmps14
  go_wp2_with fail
  obtain ⟨HS, HB0, HP0, HP1⟩ := HP.out
  clear HP
  generalize ((w.alloc _).alloc _) = W0 at *
  refine (kit_SameEffect kind mode A A' c c' xs W0 (h1.below HB0) (h1'.below HB0)).mono ?_
  rintro x w1 ⟨rfl, hb1⟩
  have q0 := (hb1.block w.heap.size (by omega)).trans HP0
  have q1 := (hb1.block (w.heap.size + 1) (by omega)).trans HP1
  have hbw := below_trans HB0 hb1
  have c6 := blk_cell q0 6; have d6 := blk_cell q1 6
  simp at c6 d6
  clear HS HP0 HP1 q0 q1
  have g1 := h2.below hbw; have g2 := h2'.below hbw
  obtain ⟨_, _, e', -, -, g1⟩ := g1; cases e'
  obtain ⟨_, _, e', -, -, g2⟩ := g2; cases e'
  go_wp2_with fail
  refine (kit_SameSpans B B' d d' ps w1 (spAt_of_row g1) (spAt_of_row g2) (by omega)).mono ?_
  rintro x w2 ⟨rfl, hb2⟩
  go_wp2_with fail
  go_ret
  exact ⟨rfl, below_trans hbw hb2⟩
/-- Events in a row. -/
def EvsAt (W : World) (E : List Ev) (A : Option Addr) : Prop := ∀ k e, E[k]? = some e → e.short ∧ ∃ b o, A = some ⟨b, o, none⟩ ∧ ∃ A1 c1 B1 d1, (∀ j u, ([.int .i64 e.node, .int .i64 e.seq, .string e.path, .int .i64 e.kind, .int .i64 e.mode, .slice A1 e.bytes.length c1, .slice B1 e.past.length d1] : List Value)[j]? = some u → W.cell? ⟨b, o + k * 7 + j, none⟩ = some u) ∧ EvAt W e (e.val A1 c1 B1 d1)
theorem EvsAt.below {W W' : World} {E : List Ev} {A : Option Addr} (h : EvsAt W E A) (hb : Below W.heap.size W W') : EvsAt W' E A := by
  intro k e he
  obtain ⟨hs, b, o, rfl, A1, c1, B1, d1, hc, hv⟩ := h k e he
  exact ⟨hs, b, o, rfl, A1, c1, B1, d1, fun j u hu => by have h1 := hc j u hu; exact ((bcell hb).1 _ _ (cell_lt h1)).trans h1, hv.below hb⟩
set_option maxHeartbeats 4000000 in
set_option maxRecDepth 100000 in
theorem kit_SameEvents (E : List Ev) (A B : Option Addr) (c d : Nat) (w : World) (ha : EvsAt w E A) (hb : EvsAt w E B) (hn : E.length ≤ 1000000) : Calls Tryz.prog 23 #[.slice A E.length c, .slice B E.length d] w fun x w' => x = .returned (.bool true) ∧ Below w.heap.size w w' := by
  go_enter Tryz.func23, Tryz.ntmps23
  go_wp2
  go_loopw [5] (fun i wr => (∃ k : Nat, k ≤ E.length ∧ i = .int .i64 k) ∧ Below w.heap.size w wr) (fun i _ => E.length - (intOf i).toNat)
  case atStart => exact ⟨⟨0, Nat.zero_le _, rfl⟩, Below.refl _ _⟩
  case round =>
    obtain ⟨⟨k, hk, rfl⟩, hbw⟩ := hrel
    by_cases hlt : k < E.length
    · obtain ⟨hs, b1, o1, rfl, A1, c1, B1, d1, hc1, hv1⟩ := (ha.below hbw) k _ (List.getElem?_eq_getElem hlt)
      obtain ⟨-, b2, o2, rfl, A2, c2, B2, d2, hc2, hv2⟩ := (hb.below hbw) k _ (List.getElem?_eq_getElem hlt)
      generalize E[k] = e at *
      have x0 := hc1 0 _ rfl; have x1 := hc1 1 _ rfl; have x2 := hc1 2 _ rfl; have x3 := hc1 3 _ rfl; have x4 := hc1 4 _ rfl; have x5 := hc1 5 _ rfl; have x6 := hc1 6 _ rfl
      have y0 := hc2 0 _ rfl; have y1 := hc2 1 _ rfl; have y2 := hc2 2 _ rfl; have y3 := hc2 3 _ rfl; have y4 := hc2 4 _ rfl; have y5 := hc2 5 _ rfl; have y6 := hc2 6 _ rfl
      rw [Nat.add_zero] at x0 y0
      clear hc1 hc2 ha hb
      have hb1 : (0 : Int) ≤ (k : Int) := by omega
      have hb2 : (k : Int) < (E.length : Int) := by omega
      have hdr := below_drew (Below.refl _ wr)
      have HV1 := Lib.hid (hv1.below hdr); have HV2 := Lib.hid (hv2.below hdr); have HDR := Lib.hid (below_drew hbw)
      clear hv1 hv2 hdr
      have htn : ((k : Int)).toNat = k := by simp
      go_wp2
      go_still_tail 8, (by kernel_rfl)
      clear htn
      change wpList _ _ _ _ _ wr.drew
      go_wp2_with (go_at_call 14; refine (kit_SameEvent e _ _ _ HV1.out HV2.out hs).mono ?_; rintro x w1 ⟨rfl, hb1⟩)
      exact ⟨⟨⟨k + 1, by omega, by simp⟩, below_trans HDR.out hb1⟩, by simp [intOf]; omega⟩
    · obtain rfl : k = E.length := by omega
      go_wp2
      go_ret
      exact ⟨rfl, hbw⟩
def pick (x n : Int) : Int := (x.tmod n + n) % n
theorem pick_bd (x n : Int) (h : 1 ≤ n) : 0 ≤ pick x n ∧ pick x n < n :=
  ⟨Int.emod_nonneg _ (by omega), Int.emod_lt_of_pos _ (by omega)⟩
set_option maxHeartbeats 1000000 in
theorem kit_Pick (x n : Int) (w : World) (h1 : 1 ≤ n) (h2 : n ≤ 1000000) : Calls Tryz.prog 18 #[.int .i64 x, .int .i64 n] w fun e w' => e = .returned (.int .i64 (pick x n)) ∧ w' = w := by
  have a1 := Int.lt_tmod_of_pos x (show 0 < n by omega)
  have a2 := Int.tmod_lt_of_pos x (show 0 < n by omega)
  have hne : ¬ n = 0 := by omega
  go_enter Tryz.func18, Tryz.ntmps18
  go_wp2
  go_ret
  exact ⟨rfl, rfl⟩
end Go.Proofs.YtfdnobhedbglgaaGreatDoor
