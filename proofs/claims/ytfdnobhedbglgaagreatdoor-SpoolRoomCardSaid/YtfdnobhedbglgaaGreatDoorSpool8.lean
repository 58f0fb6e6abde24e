import Derived.Test.YtfdnobhedbglgaaGreatDoorSpool8a
import Derived.Test.YtfdnobhedbglgaaGreatDoorInRound
import Derived.Deep.RegionHeld3
namespace Go.Proofs.YtfdnobhedbglgaaGreatDoor
open Go Go.RowKit Go.Shelf
attribute [local go_sem] Oper.semAt_some
structure AllInv (w : World) (B0 g : Nat) (L : List Lk) (pre : List (Fin (L.length + 1))) (W : World) : Prop where
  inv : ∃ v R, Boxed W B0 47 v ∧ W.ownsRow w.heap.size 39 7 v R.length (erCells R) ∧ ErOwn w.heap.size W R ∧ R.map (·.e) = (pre.filterMap fun x => L[x.val]?.map (·.e)) ∧ R.length ≤ pre.length ∧ Boxed W (B0 + 1) 25 (.pointer (some ⟨g, 0, none⟩)) ∧ Below w.heap.size w W
theorem own_other {W : World} {base : Nat} {e : TypeId} {size n : Nat} {v : Value} {xs : List Value} (h : W.ownsRow base e size v n xs) {row : Option Nat} (hr : ∀ k, row = some k → ∃ o : Obj, W.heap[k]? = some o ∧ o.isCells = false) : v.ownBlock = none ∨ v.ownBlock ≠ row := by
  rcases h.2 with ⟨rfl, _⟩ | ⟨g, cap, cur, rfl, _, hg, _⟩
  · exact .inl rfl
  · refine .inr fun e => ?_
    obtain ⟨o, ho, hc⟩ := hr g e.symm
    rw [hg] at ho
    cases ho
    cases hc
theorem AllInv.kept {w : World} {B0 g : Nat} {L : List Lk} {pre : List (Fin (L.length + 1))} {A B : World} {row : Option Nat} (h : AllInv w B0 g L pre A) (hg : A.grownBy B row) (hw : w.heap.size ≤ B0)
    (hr : ∀ k, row = some k → B0 + 2 ≤ k ∧ ∃ o : Obj, A.heap[k]? = some o ∧ o.isCells = false) : AllInv w B0 g L pre B := by
  obtain ⟨v, R, h1, h2, h3, h4, h5, h6, h7⟩ := h.inv
  have hne : ∀ k, k < B0 + 2 → some k ≠ row := fun k hk e => by have := (hr k e.symm).1; omega
  have hr2 := fun k e => (hr k e).2
  exact ⟨v, R, h1.kept hg (hne _ (by omega)), h2.kept hg (own_other h2 hr2), fun r hx => ⟨(h3 r hx).1, (h3 r hx).2.1.kept hg (own_other (h3 r hx).2.1 hr2), (h3 r hx).2.2.kept hg (own_other (h3 r hx).2.2 hr2)⟩, h4, h5, h6.kept hg (hne _ (by omega)), h7.grown hg h7.size (fun k e => by have := (hr k e).1; omega)⟩
theorem fins_map (L : List Lk) : ((fins (Nat.le_refl (L.length + 1))).filterMap fun x => L[x.val]?.map (·.e)) = L.map (·.e) := by
  have : ∀ k (h : k ≤ L.length + 1), ((fins h).filterMap fun x => L[x.val]?.map (·.e)) = (L.take k).map (·.e) := by
    intro k
    induction k with
    | zero => intro h; simp [fins]
    | succ k ih =>
      intro h
      rw [fins_next (by omega) h, List.filterMap_append, ih (by omega)]
      by_cases hk : k < L.length
      · have e1 : List.filterMap (fun x : Fin (L.length + 1) => L[x.val]?.map (·.e)) [⟨k, h⟩] = [L[k].e] := by simp [hk]
        rw [e1, List.take_succ_eq_append_getElem hk, List.map_append]
        rfl
      · simp [hk, List.take_of_length_le (show L.length ≤ k by omega), List.take_of_length_le (show L.length ≤ k + 1 by omega)]
  rw [this _ (Nat.le_refl _), List.take_of_length_le (by omega)]
def SlotS (lk : Lk) (b o : Nat) (W' : World) : Prop := W'.cell? ⟨b, o, none⟩ = some (.pointer (some ⟨lk.b, 0, none⟩)) ∧ W'.cell? ⟨lk.b, 0, none⟩ = some (.int .i64 lk.e.node) ∧ W'.cell? ⟨lk.b, 1, none⟩ = some (.int .i64 lk.e.seq) ∧ W'.cell? ⟨lk.b, 2, none⟩ = some (.string lk.e.path) ∧ W'.cell? ⟨lk.b, 3, none⟩ = some (.int .i64 lk.e.kind) ∧ W'.cell? ⟨lk.b, 4, none⟩ = some (.int .i64 lk.e.mode) ∧ W'.cell? ⟨lk.b, 5, none⟩ = some (.slice lk.A lk.e.bytes.length lk.c) ∧ W'.cell? ⟨lk.b, 6, none⟩ = some (.slice lk.B lk.e.past.length lk.d)
theorem SlotS.keep {lk : Lk} {b o n0 : Nat} {W W' : World} (h : SlotS lk b o W) (hb : Below n0 W W') (h1 : b < n0) (h2 : lk.b < n0) : SlotS lk b o W' := by
  obtain ⟨s0, e0, e1, e2, e3, e4, e5, e6⟩ := h
  exact ⟨(hb.cell (p := ⟨b, o, none⟩) h1).trans s0, (hb.cell (p := ⟨lk.b, 0, none⟩) h2).trans e0, (hb.cell (p := ⟨lk.b, 1, none⟩) h2).trans e1, (hb.cell (p := ⟨lk.b, 2, none⟩) h2).trans e2, (hb.cell (p := ⟨lk.b, 3, none⟩) h2).trans e3, (hb.cell (p := ⟨lk.b, 4, none⟩) h2).trans e4, (hb.cell (p := ⟨lk.b, 5, none⟩) h2).trans e5, (hb.cell (p := ⟨lk.b, 6, none⟩) h2).trans e6⟩
theorem all_append {n0 B0 : Nat} {W w3 : World} {A : Option Addr} {c : Nat} {R : List Er} {p : Value} {e : Ev} {A3 B3 : Option Addr} {c3 d3 : Nat} (h1 : Boxed W B0 47 (.slice A R.length c)) (h2 : W.ownsRow n0 39 7 (.slice A R.length c) R.length (erCells R)) (h3 : ErOwn n0 W R) (h6 : Boxed W (B0 + 1) 25 p) (hs : e.short)
    (o1 : w3.ownsRow W.heap.size 5 1 (.slice A3 e.bytes.length c3) e.bytes.length (byCells e.bytes)) (o2 : w3.ownsRow W.heap.size 95 3 (.slice B3 e.past.length d3) e.past.length (spCells e.past)) (hb : Below W.heap.size W w3) (hn : n0 ≤ W.heap.size) (hB : n0 ≤ B0) (hR : R.length ≤ 100000) :
    ∃ (q : Option Addr × Nat) (w4 : World), (Builtin.append_ #[47, 47] 47 #[.slice A R.length c, .slice (some ⟨w3.heap.size, 0, none⟩) 1 1]).run Tryz.prog (w3.alloc (.cells #[.int .i64 e.node, .int .i64 e.seq, .string e.path, .int .i64 e.kind, .int .i64 e.mode, .slice A3 e.bytes.length c3, .slice B3 e.past.length d3] 39)) = .ok (.slice q.1 (R.length + 1) q.2) w4 ∧
      w3.cell? ⟨B0, 0, none⟩ = some (.slice A R.length c) ∧ (w3.alloc (.cells #[.int .i64 e.node, .int .i64 e.seq, .string e.path, .int .i64 e.kind, .int .i64 e.mode, .slice A3 e.bytes.length c3, .slice B3 e.past.length d3] 39)).cell? ⟨B0, 0, none⟩ = some (.slice A R.length c) ∧
      w4.cell? ⟨B0, 0, none⟩ = some (.slice A R.length c) ∧ w4.frozen? ⟨B0, 0, none⟩ = false ∧
      Below n0 W w4 ∧ Hid (KeepsOthers W (w4.setCell ⟨B0, 0, none⟩ (.slice q.1 (R.length + 1) q.2)) ∧ Below n0 W (w4.setCell ⟨B0, 0, none⟩ (.slice q.1 (R.length + 1) q.2)) ∧ Boxed (w4.setCell ⟨B0, 0, none⟩ (.slice q.1 (R.length + 1) q.2)) (B0 + 1) 25 p ∧ Boxed (w4.setCell ⟨B0, 0, none⟩ (.slice q.1 (R.length + 1) q.2)) B0 47 (.slice q.1 (R.length + 1) q.2) ∧
        (w4.setCell ⟨B0, 0, none⟩ (.slice q.1 (R.length + 1) q.2)).ownsRow n0 39 7 (.slice q.1 (R.length + 1) q.2) (R ++ [(⟨e, A3, c3, B3, d3⟩ : Er)]).length (erCells (R ++ [(⟨e, A3, c3, B3, d3⟩ : Er)])) ∧ ErOwn n0 (w4.setCell ⟨B0, 0, none⟩ (.slice q.1 (R.length + 1) q.2)) (R ++ [(⟨e, A3, c3, B3, d3⟩ : Er)])) := by
  obtain ⟨i0, hi, hz0, hz1, hz2⟩ := info_parts infoE
  have hb0 : Boxed w3 B0 47 (.slice A R.length c) := (hb.block _ h1.lt).trans h1
  have hb1 : Boxed w3 (B0 + 1) 25 p := (hb.block _ h6.lt).trans h6
  have hrow := own_below h2 hb
  have her := h3.below hb
  have hsz := hb.size
  have hn3 : n0 ≤ w3.heap.size := by omega
  obtain ⟨ob, hob⟩ : ∃ ob, Obj.cells #[.int .i64 e.node, .int .i64 e.seq, .string e.path, .int .i64 e.kind, .int .i64 e.mode, .slice A3 e.bytes.length c3, .slice B3 e.past.length d3] 39 = ob := ⟨_, rfl⟩
  rw [hob]
  have hnew := World.alloc_heap_new w3 ob
  rw [← hob] at hnew
  rw [hob] at hnew
  have hnews : ∀ j u, (Er.cells (⟨e, A3, c3, B3, d3⟩ : Er))[j]? = some u → (w3.alloc ob).cell? ((⟨w3.heap.size, 0, none⟩ : Addr).add j) = some u := by
    intro j u hu
    rw [add_plain, blk_cell (by rw [hnew, ← hob])]
    rw [← hu]
    simp [Er.cells]
  obtain ⟨v4, w4, hr, r1, r2, r3⟩ := run_append_own (P := Tryz.prog) (w3.alloc ob) n0 47 47 39 i0 _ 7 96 Tryz.underlying47 hi hz0 hz1 hz2 rfl (by decide) _ R.length (erCells R) (hrow.alloc ob) ⟨w3.heap.size, 0, none⟩ 1 1 (Er.cells (⟨e, A3, c3, B3, d3⟩ : Er)) (by simp [Er.cells]) hnews (by simp [Er.cells, Value.oneCell']) (by simp [maxLen]; omega) (by omega) (by rw [World.size_alloc]; omega)
  obtain ⟨A4, c4, rfl, -⟩ := own_row r1
  obtain ⟨a1, a2, a3, a4, a5⟩ := Boxed.appended hb0 (by decide) hrow hn3 hB r1 r2
  have hone : Below n0 W (w4.setCell ⟨B0, 0, none⟩ (.slice A4 (R.length + 1) c4)) := (hb.mono hn).trans a5
  have hb4 : Below n0 W w4 := ((hb.mono hn).alloc hn3 ob).grown r2 (by rw [World.size_alloc]; omega) (fun k e => own_base' hrow k e)
  have her4 : ErOwn n0 w4 R := (fun r hr => ⟨(her r hr).1, ((her r hr).2.1.alloc ob).kept r2 (own_ne ((her r hr).2.1.alloc ob) (hrow.alloc ob) (by decide)), ((her r hr).2.2.alloc ob).kept r2 (own_ne ((her r hr).2.2.alloc ob) (hrow.alloc ob) (by decide))⟩)
  have o1' := (own_ge' o1 n0 hn).alloc ob
  have o2' := (own_ge' o2 n0 hn).alloc ob
  have o14 := o1'.kept r2 (own_ne o1' (hrow.alloc ob) (by decide))
  have o24 := o2'.kept r2 (own_ne o2' (hrow.alloc ob) (by decide))
  have her5 : ErOwn n0 w4 (R ++ [(⟨e, A3, c3, B3, d3⟩ : Er)]) := by
    intro r hr
    rcases List.mem_append.1 hr with hr | hr
    · exact her4 r hr
    · obtain rfl : r = _ := by simpa using hr
      exact ⟨hs, o14, o24⟩
  have hb14 : Boxed w4 (B0 + 1) 25 p := (hb1.alloc ob).kept r2 ((hb1.alloc ob).not_row (by decide) (hrow.alloc ob))
  refine ⟨(A4, c4), w4, hr, hb0.cell, (hb0.alloc ob).cell, a1.cell, a1.frozen, hb4, Lib.hid ⟨?_, hone, hb14.other (by omega) _, a2, ?_, her5.set a1 _⟩⟩
  · exact (KeepsOthers.of_grownBy (grown_of_below' hb none) (by simp)).trans a4
  · have e1 : erCells (R ++ [(⟨e, A3, c3, B3, d3⟩ : Er)]) = erCells R ++ Er.cells (⟨e, A3, c3, B3, d3⟩ : Er) := by simp [erCells]
    rw [e1, List.length_append]
    exact a3
section
variable {w : World} {g : Nat} {bytes entries : Int} {L : List Lk} {used most : Int}
set_option linter.unusedSimpArgs false in
set_option maxHeartbeats 4000000 in
set_option maxRecDepth 100000 in
theorem spool_All (h : SpoolAt w g bytes entries L used most) (hxs : L.length ≤ 100000) : Calls Tryz.prog 24 #[.pointer (some ⟨g, 0, none⟩)] w fun e w' => (∃ v' R, e = .returned v' ∧ w'.ownsRow w.heap.size 39 7 v' R.length (erCells R) ∧ ErOwn w.heap.size w' R ∧ R.map (·.e) = L.map (·.e)) ∧ Below w.heap.size w w' := by
  refine (callsIn_wide (n := 3)).1 ?_
  refine callsIn_of_wp_marks Tryz.func24 rfl trivial ?_ rfl
  simp only [Tryz.ntmps24, List.size_toArray, List.length_cons, List.length_nil, Nat.reduceAdd, Nat.reduceSub, Array.replicate_succ, Array.replicate_zero, List.push_toArray, List.append_toArray, List.nil_append, List.cons_append]
  refine wpIn_wide.2 ?_
  go_wp2_with (go_at_call 29; refine (spool_none h).mono ?_; rintro e w1 ⟨rfl, hb1⟩)
  have hbn := below_alloc hb1 (.cells #[.slice none 0 0] 47)
  have q0 := World.alloc_heap_new w1 (.cells #[.slice none 0 0] 47)
  have hs1 := hb1.size
  have hsz : (w1.alloc (.cells #[.slice none 0 0] 47)).heap.size = w1.heap.size + 1 := by simp
  generalize (w1.alloc _) = W1 at *
  refine (spool_links (h.keep hbn)).mono ?_
  rintro e w2 ⟨rfl, rfl⟩
  have p0 := (Below.heap_alloc W1 (.cells #[.pointer (some ⟨g, 0, none⟩)] 25) w1.heap.size (by omega)).trans q0
  have p1 := World.alloc_heap_new W1 (.cells #[.pointer (some ⟨g, 0, none⟩)] 25)
  have hB0 := below_alloc hbn (.cells #[.pointer (some ⟨g, 0, none⟩)] 25)
  have HS : (W1.alloc (.cells #[.pointer (some ⟨g, 0, none⟩)] 25)).heap.size = w1.heap.size + 2 := by simp [hsz]
  rw [hsz] at p1 ⊢
  generalize (W1.alloc _) = W0 at *
  clear hsz q0
  have h0 := h.keep hB0
  have hgl := h.lt
  have hM : ∀ k, k < L.length → (slotOf g L k).block < (slotOf g L (k + 1)).block ∧ (slotOf g L (k + 1)).block < w.heap.size := h.ascend
  have hbl : ∀ b ∈ spBlocks g L, b < w.heap.size := h.blocks_lt
  go_wp2_with fail
  refine (wpIn_wide (n := 3)).1 (RS.rangeFunc_state (F := Fence.wide) (n := 3) rfl (by omega) (gf := 75) (lb := #[.pointer (some ⟨w1.heap.size + 1, 0, none⟩)]) rfl trivial (enters_of Tryz.func75 (by kernel_rfl) rfl)
    (T := fun _ => False) (Kp := KeepL ((w1.heap.size + 1) :: spBlocks g L)) (encs := fun x : Fin (L.length + 1) => #[.pointer (some (slotOf g L x.val))])
    (S := fun xs => xs = fins (Nat.le_refl (L.length + 1))) (Sp := fun pre => ∃ k, ∃ h : k ≤ L.length + 1, pre = fins h) (N := L.length + 1)
    ?hseq KeepL.trans ?hKb ?hT (fun _ => rfl)
    (fun pre W => AllInv w w1.heap.size g L pre W)
    (fun _ _ _ => False)
    ?hI ?hIx ?hIT ?hIxT ?h0
    (fun x => { tmps := #[.pointer (some ⟨g, 0, none⟩), undef, .slice none 0 0, .pointer (some ⟨w1.heap.size, 0, none⟩), .pointer (some (slotOf g L x.val)), .pointer (some ⟨g, 0, none⟩), .bool false, .pointer (some ⟨g, 0, none⟩), .func (.func 75) #[] #[.pointer (some ⟨w1.heap.size + 1, 0, none⟩)], .pointer (some (slotOf g L x.val)), undef, undef, undef, undef, undef, undef, undef, undef, undef, undef, undef, undef, undef, undef, undef], defers := [] })
    ?assign ?body ?done ?stop)
  case hseq =>
    intro W1 hW1
    refine links_closure 2 (by omega) _ g L W1 ?_ ?_ w.heap.size hM
    · exact (hW1.block _ (by omega)).trans p1
    · intro k hk
      exact (h0.keep hW1).slot k hk
  case hKb =>
    intro W l o o' hl h1 h2 h3
    refine ⟨by simp [World.putObj], fun b hb => World.putObj_heap_other ?_⟩
    simp only [List.mem_cons] at hb
    rcases hb with rfl | hb
    · omega
    · have := hbl b hb; omega
  case hT => exact fun r h => h.elim
  case hI =>
    intro pre A B row hJ hg hr
    exact hJ.kept hg (by omega) (fun k e => ⟨by have := (hr k e).1; omega, (hr k e).2⟩)
  case hIx => exact fun _ _ _ _ _ h => h.elim
  case hIT => exact fun _ _ _ _ _ _ h => h.elim
  case hIxT => exact fun _ _ _ _ _ _ _ h => h.elim
  case h0 => exact ⟨⟨_, [], p0, World.ownsRow_nil _ _ _ _, fun r hr => by simp at hr, rfl, Nat.zero_le _, p1, hB0⟩⟩
  case assign =>
    intro l x W K hK
    obtain ⟨b, o, hbo⟩ := slotOf_plain g L x.val
    rw [hbo] at hK ⊢
    clear hbo hM hbl h0 p0 p1 hB0 hbn h HS hgl hb1
    gi_wp2
    exact hK
  case body =>
    rintro l pre x W ⟨⟨v, R, h1, h2, h3, h4, h5, h6, h7⟩⟩ hN
    have hSW := h.keep h7
    have s0 := hSW.slot x.val (by omega)
    obtain ⟨b, o, hbo⟩ := slotOf_plain g L x.val
    rw [hbo] at s0 ⊢
    have hws : w.heap.size ≤ W.heap.size := h7.size
    have hB0w : w.heap.size ≤ w1.heap.size := hs1
    by_cases hlt : x.val < L.length
    · rw [ptrOf_some hlt] at s0
      have hl := List.getElem?_eq_getElem hlt
      have hk := hSW.link x.val _ hl
      have hev := hSW.ev (List.getElem_mem hlt)
      have hshort := (hSW.own _ (List.getElem_mem hlt)).1
      have hlenR : R.length ≤ 100000 := by have := hxs; omega
      obtain ⟨lk, hlk⟩ : ∃ lk, L[x.val] = lk := ⟨_, rfl⟩
      rw [hlk] at hk s0 hl hev hshort
      have e0 := blk_cell hk 0; have e1 := blk_cell hk 1; have e2 := blk_cell hk 2; have e3 := blk_cell hk 3; have e4 := blk_cell hk 4; have e5 := blk_cell hk 5; have e6 := blk_cell hk 6
      simp [lkCells] at e0 e1 e2 e3 e4 e5 e6
      have c1 := h1.cell
      obtain ⟨A, c, rfl, -⟩ := own_row h2
      have hbn0 : b < w.heap.size := by
        have := h.slot_block (k := x.val) (by omega)
        rw [hbo] at this
        exact this
      have hlkb : lk.b < w.heap.size := h.blt hl
      have HBL := Lib.hid hbl
      have HL := Lib.hid hl; have HEV := Lib.hid (hev.below (below_drew (Below.refl _ W)))
      have H1 := Lib.hid h1; have H2 := Lib.hid h2; have H3 := Lib.hid h3; have H4 := Lib.hid h4; have H6 := Lib.hid h6; have H7 := Lib.hid h7
      obtain ⟨i0, hi, hz0, hz1, hz2⟩ := info_parts infoE
      have HI := Lib.hid (And.intro hi (And.intro hz0 (And.intro hz1 hz2)))
      have FIN : Hid (∀ (w' : World) (v' : Value) (r : Er), r.e = lk.e → KeepsOthers W.drew w' → Below w.heap.size W.drew w' → Boxed w' (w1.heap.size + 1) 25 (.pointer (some ⟨g, 0, none⟩)) → Boxed w' w1.heap.size 47 v' → w'.ownsRow w.heap.size 39 7 v' (R ++ [r]).length (erCells (R ++ [r])) → ErOwn w.heap.size w' (R ++ [r]) →
          KeepsFrom W0.heap.size W w' ∧ KeepL ((w1.heap.size + 1) :: spBlocks g L) W w' ∧ AllInv w w1.heap.size g L (pre ++ [x]) w') := Lib.hid (by
        intro w' v' r hr k1 k2 k3 k4 k5 k6
        have hbd : Below w.heap.size W w' := (below_drewN (Below.refl w.heap.size W) 1).trans k2
        refine ⟨(KeepsFrom.of_grownBy (grown_of_below' (below_drew (Below.refl _ W)) none) (by simp)).trans (k1.from _), ⟨hbd.size, fun bb hbb => ?_⟩, ⟨v', R ++ [r], k4, k5, k6, ?_, ?_, k3, h7.trans hbd⟩⟩
        · rcases List.mem_cons.1 hbb with rfl | hbb
          · exact Eq.trans k3 (Eq.symm h6)
          · exact hbd.block bb (hbl bb hbb)
        · rw [List.map_append, h4, List.filterMap_append]
          simp [hl, hr]
        · simp; omega)
      clear hi hz0 hz1 hz2 hl hev h1 h2 h3 h4 h6 h7 hk hlk hSW hbo hlt hM hbl h0 p0 p1 hB0 hbn HS hgl hb1 hN
      gi_wp2
      have hSd : SlotS lk b o W.drew := ⟨s0, e0, e1, e2, e3, e4, e5, e6⟩
      refine region_inRound (R := fun _ w' => KeepsFrom W0.heap.size W w' ∧ KeepL ((w1.heap.size + 1) :: spBlocks g L) W w' ∧ AllInv w w1.heap.size g L (pre ++ [x]) w') (by kernel_rfl) (by kernel_rfl) (SlotS lk b o) ?_ ?_
      rotate_left
      · intro a' w' hR
        gi_wp2
        exact hR
      refine' wpAnyH_take (i := 1) (v := _) rfl (by kernel_rfl) (by kernel_rfl) (by kernel_rfl) (fun _ _ _ h => h) (Or.inl ⟨by rfl, ?hy1⟩) (by assumption) ?rest1
      case hy1 => (intro w hSw; unfold SlotS at hSw; (first | (go_simp; done) | (go_simp; with_reducible rfl)))
      try simp only [Act.put, List.setIfInBounds_toArray, List.set_cons_zero, List.set_cons_succ]
      refine' wpAnyH_take (i := 2) (v := _) rfl (by kernel_rfl) (by kernel_rfl) (by kernel_rfl) (fun _ _ _ h => h) (Or.inl ⟨by rfl, ?hy2⟩) (by assumption) ?rest2
      case hy2 => (intro w hSw; unfold SlotS at hSw; (first | (go_simp; done) | (go_simp; with_reducible rfl)))
      try simp only [Act.put, List.setIfInBounds_toArray, List.set_cons_zero, List.set_cons_succ]
      refine' wpAnyH_take (i := 3) (v := _) rfl (by kernel_rfl) (by kernel_rfl) (by kernel_rfl) (fun _ _ _ h => h) (Or.inl ⟨by rfl, ?hy3⟩) (by assumption) ?rest3
      case hy3 => (intro w hSw; unfold SlotS at hSw; (first | (go_simp; done) | (go_simp; with_reducible rfl)))
      try simp only [Act.put, List.setIfInBounds_toArray, List.set_cons_zero, List.set_cons_succ]
      refine' wpAnyH_take (i := 4) (v := _) rfl (by kernel_rfl) (by kernel_rfl) (by kernel_rfl) (fun _ _ _ h => h) (Or.inl ⟨by rfl, ?hy4⟩) (by assumption) ?rest4
      case hy4 => (intro w hSw; unfold SlotS at hSw; (first | (go_simp; done) | (go_simp; with_reducible rfl)))
      try simp only [Act.put, List.setIfInBounds_toArray, List.set_cons_zero, List.set_cons_succ]
      refine' wpAnyH_take (i := 5) (v := _) rfl (by kernel_rfl) (by kernel_rfl) (by kernel_rfl) (fun _ _ _ h => h) (Or.inl ⟨by rfl, ?hy5⟩) (by assumption) ?rest5
      case hy5 => (intro w hSw; unfold SlotS at hSw; (first | (go_simp; done) | (go_simp; with_reducible rfl)))
      try simp only [Act.put, List.setIfInBounds_toArray, List.set_cons_zero, List.set_cons_succ]
      refine' wpAnyH_take (i := 6) (v := _) rfl (by kernel_rfl) (by kernel_rfl) (by kernel_rfl) (fun _ _ _ h => h) (Or.inl ⟨by rfl, ?hy6⟩) (by assumption) ?rest6
      case hy6 => (intro w hSw; unfold SlotS at hSw; (first | (go_simp; done) | (go_simp; with_reducible rfl)))
      try simp only [Act.put, List.setIfInBounds_toArray, List.set_cons_zero, List.set_cons_succ]
      refine wpAnyH_ready (rs := [0, 7]) (by kernel_rfl) (by simp) ?_
      refine AllReadyH.cons rfl (fun K hK => ?_) (AllReadyH.cons rfl (fun K hK => ?_) AllReadyH.nil)
      · go_simp
        refine hK.out _ _ hSd (fun _ => ?_)
        clear hK K
        try simp only [Act.put, List.setIfInBounds_toArray, List.set_cons_zero, List.set_cons_succ]
        refine wpAnyH_ready (rs := [7]) (by kernel_rfl) (by simp) ?_
        refine AllReadyH.cons rfl (fun K hK => ?_) AllReadyH.nil
        go_simp
        refine (spool_own lk.e _ W.drew hshort HEV.out).mono ?_
        rintro e w3 ⟨⟨v3, rfl, A3, c3, B3, d3, rfl, o1, o2⟩, hb3⟩
        obtain ⟨⟨A4, c4⟩, w4, hr4, c3', ca, c4', f4, hb4, HF⟩ := all_append (W := W.drew) (w3 := w3) H1.out H2.out H3.out H6.out hshort o1 o2 hb3 hws hB0w hlenR
        have S3 := hSd.keep (hb3.mono hws) hbn0 hlkb
        have S3a := S3.keep ((below_alloc (Below.refl _ w3) (.cells #[.int .i64 lk.e.node, .int .i64 lk.e.seq, .string lk.e.path, .int .i64 lk.e.kind, .int .i64 lk.e.mode, .slice A3 lk.e.bytes.length c3, .slice B3 lk.e.past.length d3] 39)).mono (Nat.le_trans hws hb3.size)) hbn0 hlkb
        have S4 := hSd.keep hb4 hbn0 hlkb
        have S5 := hSd.keep HF.out.2.1 hbn0 hlkb
        dsimp only
        refine hK.out _ _ S3 (fun _ => ?_)
        clear hK K
        try simp only [Act.put, List.setIfInBounds_toArray, List.set_cons_zero, List.set_cons_succ]
        refine wpAnyH_ready (rs := [8]) (by kernel_rfl) (by simp) ?_
        refine AllReadyH.cons rfl (fun K hK => ?_) AllReadyH.nil
        go_simp
        refine hK.out _ _ S3a (fun _ => ?_)
        clear hK K
        try simp only [Act.put, List.setIfInBounds_toArray, List.set_cons_zero, List.set_cons_succ]
        refine wpAnyH_ready (rs := [9]) (by kernel_rfl) (by simp) ?_
        refine AllReadyH.cons rfl (fun K hK => ?_) AllReadyH.nil
        rw [if_pos (by rfl)]
        refine Lib.wp_append_run _ (.tmp 14) (.tmp 22) 47 47 rfl _ _ rfl rfl _ _ hr4 ?_
        refine hK.out _ _ S4 (fun _ => ?_)
        clear hK K
        try simp only [Act.put, List.setIfInBounds_toArray, List.set_cons_zero, List.set_cons_succ]
        refine wpAnyH_ready (rs := [10]) (by kernel_rfl) (by simp) ?_
        refine AllReadyH.cons rfl (fun K hK => ?_) AllReadyH.nil
        go_simp
        refine hK.out _ _ S5 (fun _ => ?_)
        clear hK K
        refine wpAnyH_done (by kernel_rfl) ?_ _
        exact FIN.out _ _ ⟨lk.e, A3, c3, B3, d3⟩ rfl HF.out.1 HF.out.2.1 HF.out.2.2.1 HF.out.2.2.2.1 HF.out.2.2.2.2.1 HF.out.2.2.2.2.2
      · go_simp
        refine (spool_own lk.e _ W.drew hshort HEV.out).mono ?_
        rintro e w3 ⟨⟨v3, rfl, A3, c3, B3, d3, rfl, o1, o2⟩, hb3⟩
        obtain ⟨⟨A4, c4⟩, w4, hr4, c3', ca, c4', f4, hb4, HF⟩ := all_append (W := W.drew) (w3 := w3) H1.out H2.out H3.out H6.out hshort o1 o2 hb3 hws hB0w hlenR
        have S3 := hSd.keep (hb3.mono hws) hbn0 hlkb
        have S3a := S3.keep ((below_alloc (Below.refl _ w3) (.cells #[.int .i64 lk.e.node, .int .i64 lk.e.seq, .string lk.e.path, .int .i64 lk.e.kind, .int .i64 lk.e.mode, .slice A3 lk.e.bytes.length c3, .slice B3 lk.e.past.length d3] 39)).mono (Nat.le_trans hws hb3.size)) hbn0 hlkb
        have S4 := hSd.keep hb4 hbn0 hlkb
        have S5 := hSd.keep HF.out.2.1 hbn0 hlkb
        dsimp only
        refine hK.out _ _ S3 (fun _ => ?_)
        clear hK K
        try simp only [Act.put, List.setIfInBounds_toArray, List.set_cons_zero, List.set_cons_succ]
        refine wpAnyH_ready (rs := [0, 8]) (by kernel_rfl) (by simp) ?_
        refine AllReadyH.cons rfl (fun K hK => ?_) (AllReadyH.cons rfl (fun K hK => ?_) AllReadyH.nil)
        · go_simp
          refine hK.out _ _ S3 (fun _ => ?_)
          clear hK K
          try simp only [Act.put, List.setIfInBounds_toArray, List.set_cons_zero, List.set_cons_succ]
          refine wpAnyH_ready (rs := [8]) (by kernel_rfl) (by simp) ?_
          refine AllReadyH.cons rfl (fun K hK => ?_) AllReadyH.nil
          go_simp
          refine hK.out _ _ S3a (fun _ => ?_)
          clear hK K
          try simp only [Act.put, List.setIfInBounds_toArray, List.set_cons_zero, List.set_cons_succ]
          refine wpAnyH_ready (rs := [9]) (by kernel_rfl) (by simp) ?_
          refine AllReadyH.cons rfl (fun K hK => ?_) AllReadyH.nil
          rw [if_pos (by rfl)]
          refine Lib.wp_append_run _ (.tmp 14) (.tmp 22) 47 47 rfl _ _ rfl rfl _ _ hr4 ?_
          refine hK.out _ _ S4 (fun _ => ?_)
          clear hK K
          try simp only [Act.put, List.setIfInBounds_toArray, List.set_cons_zero, List.set_cons_succ]
          refine wpAnyH_ready (rs := [10]) (by kernel_rfl) (by simp) ?_
          refine AllReadyH.cons rfl (fun K hK => ?_) AllReadyH.nil
          go_simp
          refine hK.out _ _ S5 (fun _ => ?_)
          clear hK K
          refine wpAnyH_done (by kernel_rfl) ?_ _
          exact FIN.out _ _ ⟨lk.e, A3, c3, B3, d3⟩ rfl HF.out.1 HF.out.2.1 HF.out.2.2.1 HF.out.2.2.2.1 HF.out.2.2.2.2.1 HF.out.2.2.2.2.2
        · go_simp
          refine hK.out _ _ S3a (fun _ => ?_)
          clear hK K
          try simp only [Act.put, List.setIfInBounds_toArray, List.set_cons_zero, List.set_cons_succ]
          refine wpAnyH_ready (rs := [0]) (by kernel_rfl) (by simp) ?_
          refine AllReadyH.cons rfl (fun K hK => ?_) AllReadyH.nil
          go_simp
          refine hK.out _ _ S3a (fun _ => ?_)
          clear hK K
          try simp only [Act.put, List.setIfInBounds_toArray, List.set_cons_zero, List.set_cons_succ]
          refine wpAnyH_ready (rs := [9]) (by kernel_rfl) (by simp) ?_
          refine AllReadyH.cons rfl (fun K hK => ?_) AllReadyH.nil
          rw [if_pos (by rfl)]
          refine Lib.wp_append_run _ (.tmp 14) (.tmp 22) 47 47 rfl _ _ rfl rfl _ _ hr4 ?_
          refine hK.out _ _ S4 (fun _ => ?_)
          clear hK K
          try simp only [Act.put, List.setIfInBounds_toArray, List.set_cons_zero, List.set_cons_succ]
          refine wpAnyH_ready (rs := [10]) (by kernel_rfl) (by simp) ?_
          refine AllReadyH.cons rfl (fun K hK => ?_) AllReadyH.nil
          go_simp
          refine hK.out _ _ S5 (fun _ => ?_)
          clear hK K
          refine wpAnyH_done (by kernel_rfl) ?_ _
          exact FIN.out _ _ ⟨lk.e, A3, c3, B3, d3⟩ rfl HF.out.1 HF.out.2.1 HF.out.2.2.1 HF.out.2.2.2.1 HF.out.2.2.2.2.1 HF.out.2.2.2.2.2
    · have hxe : x.val = L.length := by omega
      have HN := Lib.hid (show L[x.val]? = none from by rw [hxe]; simp)
      rw [hxe, ptrOf_end] at s0
      have HA := Lib.hid (show AllInv w w1.heap.size g L (pre ++ [x]) W from ⟨⟨v, R, h1, h2, h3, by rw [h4, List.filterMap_append]; simp [HN.out], by simp; omega, h6, h7⟩⟩)
      clear hxe hlt h1 h2 h3 h4 h5 h6 h7 hSW hbo hM hbl h0 p0 p1 hB0 hbn HS hgl hb1 hN
      gi_wp2
      exact ⟨KeepsFrom.of_grownBy (grown_of_below' (Below.refl _ W) none) (by simp), ⟨Nat.le_refl _, fun _ _ => rfl⟩, HA.out⟩
  case done =>
    rintro D xs W hD hS ⟨⟨v, R, h1, h2, h3, h4, h5, h6, h7⟩⟩ hK
    have c1 := h1.cell
    obtain ⟨A, c, rfl, -⟩ := own_row h2
    have hDw : w.heap.size ≤ D := by omega
    clear hM hbl h0 p0 p1 hB0 hbn HS
    go_wp2
    refine ⟨by simp, .inl ⟨_, _, rfl, run_takeDeferred hK, ?_⟩⟩
    have hr2 : ∀ k, some D = some k → ∃ o : Obj, W.heap[k]? = some o ∧ o.isCells = false := fun k e => by cases e; exact ⟨_, hK, rfl⟩
    refine ⟨_, results_tmp rfl _ _ _, ⟨_, R, rfl, h2.kept (grownBy_putObj' W D _) (own_other h2 hr2), fun r hx => ⟨(h3 r hx).1, (h3 r hx).2.1.kept (grownBy_putObj' W D _) (own_other (h3 r hx).2.1 hr2), (h3 r hx).2.2.kept (grownBy_putObj' W D _) (own_other (h3 r hx).2.2 hr2)⟩, ?_⟩, h7.trans (belowK_b (w := w) (Nat.le_refl _) W D _ _ hDw hK rfl rfl)⟩
    rw [h4, hS]
    exact fins_map L
  case stop => exact fun _ _ _ _ _ _ h => h.elim
end
end Go.Proofs.YtfdnobhedbglgaaGreatDoor
