import Derived.Test.YtfdnobhedbglgaaGreatDoorLaw4
namespace Go.Proofs.YtfdnobhedbglgaaGreatDoor
open Go Go.RowKit Go.Shelf
/-! What waits, as a list of events: sums, dots. -/
def sumEv (E : List Ev) : Int := (E.map fun e => (e.size : Int)).sum
def dotE (n s : Int) (e : Ev) : Bool := e.node == n && e.seq == s
theorem sumEv_nil : sumEv [] = 0 := rfl
theorem sumEv_snoc (E : List Ev) (e : Ev) : sumEv (E ++ [e]) = sumEv E + e.size := by simp [sumEv]
theorem sumEv_take (E : List Ev) (k : Nat) (h : k < E.length) : sumEv (E.take (k + 1)) = sumEv (E.take k) + E[k].size := by
  rw [List.take_succ_eq_append_getElem h, sumEv_snoc]
theorem sumEv_nonneg (E : List Ev) : 0 ≤ sumEv E := by
  induction E with
  | nil => simp [sumEv]
  | cons e l ih => simp only [sumEv, List.map_cons, List.sum_cons] at ih ⊢; omega
theorem sumEv_take_le (E : List Ev) (k : Nat) : sumEv (E.take k) ≤ sumEv E := by
  have h : sumEv (E.take k ++ E.drop k) = sumEv (E.take k) + sumEv (E.drop k) := by
    unfold sumEv; rw [List.map_append, List.sum_append]
  rw [List.take_append_drop] at h
  have := sumEv_nonneg (E.drop k)
  omega
theorem sumEv_erase (E : List Ev) (k : Nat) (e : Ev) (h : E[k]? = some e) : sumEv (E.eraseIdx k) = sumEv E - e.size := by
  induction E generalizing k with
  | nil => simp at h
  | cons x l ih =>
    cases k with
    | zero => simp at h; subst h; simp [sumEv]; omega
    | succ k =>
      have := ih k (by simpa using h)
      simp only [sumEv, List.eraseIdx_cons_succ, List.map_cons, List.sum_cons] at this ⊢
      omega
theorem findAt_ev (L : List Lk) (n s : Int) : findAt L n s = (L.map (·.e)).findIdx (dotE n s) := by
  unfold findAt; rw [List.findIdx_map]; rfl
/-- No Dot twice. -/
def dotsOnce (E : List Ev) : Prop := E.Pairwise fun x y => ¬ (x.node = y.node ∧ x.seq = y.seq)
theorem dotsOnce_erase {E : List Ev} (h : dotsOnce E) (k : Nat) : dotsOnce (E.eraseIdx k) := List.Pairwise.sublist (List.eraseIdx_sublist E k) h
theorem dotsOnce_snoc {E : List Ev} (h : dotsOnce E) (e : Ev) (hf : E.findIdx (dotE e.node e.seq) = E.length) : dotsOnce (E ++ [e]) := by
  unfold dotsOnce
  rw [List.pairwise_append]
  refine ⟨h, List.pairwise_singleton _ _, fun x hx y hy => ?_⟩
  simp at hy
  subst hy
  intro hxy
  have := List.findIdx_eq_length.1 hf x hx
  simp [dotE, hxy.1, hxy.2] at this
theorem filter_erase {E : List Ev} (h : dotsOnce E) (n s : Int) (hf : E.findIdx (dotE n s) < E.length) : E.filter (fun e => !dotE n s e) = E.eraseIdx (E.findIdx (dotE n s)) := by
  induction E with
  | nil => simp at hf
  | cons x l ih =>
    have hp := List.pairwise_cons.1 h
    by_cases hx : dotE n s x = true
    · rw [List.findIdx_cons, hx]
      simp only [cond_true, List.eraseIdx_cons_zero]
      rw [List.filter_cons]
      simp only [hx, Bool.not_true, Bool.false_eq_true, if_false]
      rw [List.filter_eq_self]
      intro y hy
      have := hp.1 y hy
      simp only [dotE, Bool.and_eq_true, beq_iff_eq] at hx
      have h3 : dotE n s y ≠ true := by
        intro h4
        simp only [dotE, Bool.and_eq_true, beq_iff_eq] at h4
        exact this ⟨by rw [hx.1, h4.1], by rw [hx.2, h4.2]⟩
      simpa using h3
    · have hx' : dotE n s x = false := by simpa using hx
      rw [List.findIdx_cons, hx'] at hf ⊢
      simp only [cond_false, List.eraseIdx_cons_succ]
      rw [List.filter_cons]
      simp only [hx', Bool.not_false, if_true]
      rw [ih hp.2 (by simpa using hf)]
theorem dropR_map (n s : Int) (R : List Er) : (dropR n s R).map (·.e) = (R.map (·.e)).filter (fun e => !dotE n s e) := by
  unfold dropR
  rw [List.filter_map]
  rfl
theorem map_erase (L : List Lk) (k : Nat) : (L.map (·.e)).eraseIdx k = (L.eraseIdx k).map (·.e) := by
  induction L generalizing k with
  | nil => rfl
  | cons x l ih => cases k with
    | zero => rfl
    | succ k => simp [ih]
/-- Between two calls: the spool, what was put and not dropped. -/
structure RoomInv (w : World) (g : Nat) (bytes entries : Int) (want : Value) (wr : World) (L : List Lk) (R : List Er) (used most : Int) : Prop where
  sp : SpoolAt wr g bytes entries L used most
  row : WantAt wr w.heap.size R want
  same : R.map (·.e) = L.map (·.e)
  sum : used = sumEv (R.map (·.e))
  once : dotsOnce (R.map (·.e))
  u0 : 0 ≤ used
  u1 : used ≤ bytes
  m0 : used ≤ most
  m1 : most ≤ bytes
  len : (R.length : Int) ≤ entries
  at_ : ∀ r ∈ R, r.e.short ∧ EvAt w r.e (r.e.val r.A r.c r.B r.d)
  low : Below w.heap.size w wr
  gl : w.heap.size ≤ g
theorem RoomInv.llen {w : World} {g : Nat} {bytes entries : Int} {want : Value} {wr : World} {L : List Lk} {R : List Er} {used most : Int} (h : RoomInv w g bytes entries want wr L R used most) : L.length = R.length := by
  have := congrArg List.length h.same
  simpa using this.symm
theorem RoomInv.keep {w : World} {g : Nat} {bytes entries : Int} {want : Value} {wr W : World} {L : List Lk} {R : List Er} {used most : Int} (h : RoomInv w g bytes entries want wr L R used most) (hb : Below wr.heap.size wr W) : RoomInv w g bytes entries want W L R used most :=
  { h with sp := h.sp.keep hb, row := own_below h.row hb, low := below_trans h.low hb }
/-- What a row of events owns stays while the spool is written. -/
theorem want_frame {W W' : World} {g : Nat} {bytes entries used most : Int} {L : List Lk} {B0 : Nat} {R : List Er} {v : Value} (h : SpoolAt W g bytes entries L used most) (hw : WantAt W B0 R v) (hf : FrameS g L W W') : WantAt W' B0 R v := by
  rcases own_row hw with ⟨A, c, rfl, -⟩
  obtain ⟨hl, hr⟩ := hw
  refine ⟨hl, ?_⟩
  rcases hr with hr | ⟨k, cap, cur, e, hB, hk, h1, h2, h3, h4⟩
  · exact .inl hr
  · refine .inr ⟨k, cap, cur, e, hB, ?_, h1, h2, h3, h4⟩
    rw [hf k (Array.getElem?_eq_some_iff.1 hk).1 ?_]
    · exact hk
    · simp only [spBlocks, List.mem_cons, List.mem_map, not_or, not_exists, not_and]
      refine ⟨fun e => ?_, fun l hl e => ?_⟩
      · subst e; rw [h.head] at hk; simp at hk
      · obtain ⟨i, hi⟩ := List.getElem?_of_mem hl
        have a := h.link i l hi
        rw [e, hk] at a
        simp at a
/-- A block of another type stays while the spool is written. -/
theorem blk_frame {W W' : World} {g : Nat} {bytes entries used most : Int} {L : List Lk} {k : Nat} {cs : Array Value} {t : TypeId} {fr : Nat × Nat} (h : SpoolAt W g bytes entries L used most) (hk : W.heap[k]? = some (.cells cs t fr)) (h1 : t ≠ 68) (h2 : t ≠ 75) (hf : FrameS g L W W') : W'.heap[k]? = some (.cells cs t fr) := by
  rw [hf k (Array.getElem?_eq_some_iff.1 hk).1 ?_]
  · exact hk
  · simp only [spBlocks, List.mem_cons, List.mem_map, not_or, not_exists, not_and]
    refine ⟨fun e => ?_, fun l hl e => ?_⟩
    · subst e; rw [h.head] at hk; simp at hk; exact h1 hk.2.1.symm
    · obtain ⟨i, hi⟩ := List.getElem?_of_mem hl
      have a := h.link i l hi
      rw [e, hk] at a
      simp at a
      exact h2 a.2.1
/-- The spool stays while a row of events of the walk's own grows. -/
theorem room_grown {W W' : World} {g : Nat} {bytes entries used most : Int} {L : List Lk} {base n : Nat} {v : Value} {xs : List Value} (h : SpoolAt W g bytes entries L used most) (ho : W.ownsRow base 39 7 v n xs) (hg : W.grownBy W' v.ownBlock) : SpoolAt W' g bytes entries L used most := by
  have hk : ∀ (k : Nat) (cs : Array Value) (t : TypeId), t ≠ 39 → W.heap[k]? = some (.cells cs t (0, 0)) → W'.heap[k]? = some (.cells cs t (0, 0)) := fun k cs t ht hc => by
    rw [hg.block k (Array.getElem?_eq_some_iff.1 hc).1 (fun e => blk_ne hc ho ht e.symm)]
    exact hc
  exact ⟨hk _ _ _ (by decide) h.head, fun k l hl => hk _ _ _ (by decide) (h.link k l hl),
    fun l hl => ⟨(h.own l hl).1, (h.own l hl).2.1.kept hg (own_ne (h.own l hl).2.1 ho (by decide)), (h.own l hl).2.2.kept hg (own_ne (h.own l hl).2.2 ho (by decide))⟩, h.up, h.above⟩
/-- A row of events of the walk's own, as what is compared. -/
theorem evs_row {W : World} {base n : Nat} {A : Option Addr} {c : Nat} {R : List Er} (h : W.ownsRow base 39 7 (.slice A n c) R.length (erCells R)) (he : ∀ r ∈ R, r.e.short ∧ EvAt W r.e (r.e.val r.A r.c r.B r.d)) : EvsAt W (R.map (·.e)) A := by
  obtain ⟨A', c', e', -, -, hr⟩ := own_row h
  cases e'
  intro k e hk
  have hlt : k < R.length := by have := (List.getElem?_eq_some_iff.1 hk).1; simpa using this
  have he' : R[k].e = e := by simpa [List.getElem?_eq_getElem hlt] using hk
  obtain ⟨b, o, rfl, hc⟩ := hr (by rw [erCells_length]; omega)
  have h2 := he R[k] (List.getElem_mem _)
  rw [he'] at h2
  refine ⟨h2.1, b, o, rfl, R[k].A, R[k].c, R[k].B, R[k].d, fun j u hu => ?_, h2.2⟩
  rw [Nat.add_assoc]
  refine hc _ u (erCells_get R k hlt j u ?_)
  unfold Er.cells
  rw [he']
  exact hu
theorem evs_own {W : World} {base n : Nat} {A : Option Addr} {c : Nat} {R : List Er} (h : W.ownsRow base 39 7 (.slice A n c) R.length (erCells R)) (he : ErOwn base W R) : EvsAt W (R.map (·.e)) A :=
  evs_row h fun r hr => ⟨(he r hr).1, r.A, r.c, r.B, r.d, rfl, own_by (he r hr).2.1, own_sp (he r hr).2.2⟩
theorem evs_want {w W : World} {g : Nat} {bytes entries used most : Int} {A : Option Addr} {n c : Nat} {L : List Lk} {R : List Er} (h : RoomInv w g bytes entries (.slice A n c) W L R used most) : EvsAt W (R.map (·.e)) A :=
  evs_row h.row fun r hr => ⟨(h.at_ r hr).1, (h.at_ r hr).2.below h.low⟩
/-- Behind a drop. -/
theorem RoomInv.drop {w : World} {g : Nat} {bytes entries : Int} {want : Value} {wr W : World} {L : List Lk} {R : List Er} {used most : Int} (h : RoomInv w g bytes entries want wr L R used most) {n s : Int} {l : Lk} (hl : L[findAt L n s]? = some l)
    (hsp : SpoolAt W g bytes entries (L.eraseIdx (findAt L n s)) (used - l.e.size) most) {want' : Value} (hrow : WantAt W w.heap.size (dropR n s R) want') (hlow : Below w.heap.size w W) :
    RoomInv w g bytes entries want' W (L.eraseIdx (findAt L n s)) (dropR n s R) (used - l.e.size) most := by
  have hlt := (List.getElem?_eq_some_iff.1 hl).1
  have hfe := findAt_ev L n s
  have hE : (R.map (·.e))[findAt L n s]? = some l.e := by rw [h.same]; simp [hl]
  have hfi : (R.map (·.e)).findIdx (dotE n s) = findAt L n s := by rw [h.same, hfe]
  have hd : (dropR n s R).map (·.e) = (R.map (·.e)).eraseIdx (findAt L n s) := by
    rw [dropR_map, filter_erase h.once n s (by rw [hfi, h.same]; simpa using hlt), hfi]
  have hsum : sumEv ((dropR n s R).map (·.e)) = used - l.e.size := by rw [hd, sumEv_erase _ _ _ hE, h.sum]
  have hn := sumEv_nonneg ((dropR n s R).map (·.e))
  have hu1 := h.u1; have hm0 := h.m0
  exact { sp := hsp, row := hrow, same := by rw [hd, h.same, map_erase], sum := hsum.symm, once := by rw [hd]; exact dotsOnce_erase h.once _, u0 := by omega, u1 := by omega, m0 := by omega, m1 := h.m1,
          len := by have := List.length_filter_le (fun r => !isDotE n s r) R; have h2 := h.len; unfold dropR; omega, at_ := fun r hr => h.at_ r (List.mem_filter.1 hr).1, low := hlow, gl := h.gl }
/-- Behind a put. -/
theorem RoomInv.put {w : World} {g : Nat} {bytes entries : Int} {want : Value} {wr W : World} {L : List Lk} {R : List Er} {used most : Int} (h : RoomInv w g bytes entries want wr L R used most) {e : Ev} {l : Lk} (hl : l.e = e) (hr : putRes bytes entries L used e = 0)
    (hsp : SpoolAt W g bytes entries (L ++ [l]) (used + e.size) (if used + e.size ≤ most then most else used + e.size)) {want' : Value} (r : Er) (hre : r.e = e) (hat : e.short ∧ EvAt w e (e.val r.A r.c r.B r.d)) (hrow : WantAt W w.heap.size (R ++ [r]) want') (hlow : Below w.heap.size w W) :
    RoomInv w g bytes entries want' W (L ++ [l]) (R ++ [r]) (used + e.size) (if used + e.size ≤ most then most else used + e.size) := by
  subst hre
  have hu0 := h.u0; have hu1 := h.u1; have hm0 := h.m0; have hm1 := h.m1; have hll := h.llen
  unfold putRes at hr
  split at hr <;> try omega
  split at hr <;> try omega
  split at hr <;> try omega
  split at hr <;> try omega
  rename_i hf hq
  have hfi : (R.map (·.e)).findIdx (dotE r.e.node r.e.seq) = (R.map (·.e)).length := by
    have h1 : (R.map (·.e)).findIdx (dotE r.e.node r.e.seq) = findAt L r.e.node r.e.seq := by rw [h.same, findAt_ev]
    have h2 := List.findIdx_le_length (p := dotE r.e.node r.e.seq) (xs := R.map (·.e))
    rw [List.length_map] at h2 ⊢
    omega
  exact { sp := hsp, row := hrow, same := by simp [h.same, hl], sum := by rw [List.map_append, List.map_singleton, sumEv_snoc, ← h.sum], once := by rw [List.map_append]; exact dotsOnce_snoc h.once _ hfi, u0 := by omega, u1 := by omega,
          m0 := by split <;> omega, m1 := by split <;> omega, len := by rw [List.length_append]; simp; omega, at_ := fun q hq => by
            rcases List.mem_append.1 hq with hq | hq
            · exact h.at_ q hq
            · simp at hq; subst hq; exact hat
          low := hlow, gl := h.gl }
/-- Behind what was refused. -/
theorem RoomInv.stay {w : World} {g : Nat} {bytes entries : Int} {want : Value} {wr W : World} {L : List Lk} {R : List Er} {used most : Int} (h : RoomInv w g bytes entries want wr L R used most)
    (hsp : SpoolAt W g bytes entries L used most) (hf : FrameS g L wr W) (hb : Below g wr W) : RoomInv w g bytes entries want W L R used most :=
  { h with sp := hsp, row := want_frame h.sp h.row hf, low := h.low.trans (hb.mono h.gl) }
/-- Why a put is refused. -/
theorem put_full {bytes entries : Int} {L : List Lk} {used : Int} {e : Ev} (hu : L = [] → used = 0) (hr : putRes bytes entries L used e = 8) (h0 : 0 ≤ entries) : (e.size : Int) ≤ bytes ∧ 0 < L.length := by
  unfold putRes at hr
  split at hr <;> try omega
  split at hr <;> try omega
  split at hr <;> try omega
  refine ⟨by omega, ?_⟩
  rcases Nat.eq_zero_or_pos L.length with h | h
  · have := hu (List.eq_nil_of_length_eq_zero h)
    split at hr <;> omega
  · exact h
theorem put_long {bytes entries : Int} {L : List Lk} {used : Int} {e : Ev} (hr : putRes bytes entries L used e = 3) : bytes < (e.size : Int) ∨ entries = 0 := by
  unfold putRes at hr
  omega
theorem put_ways {bytes entries : Int} {L : List Lk} {used : Int} {e : Ev} : putRes bytes entries L used e = 0 ∨ putRes bytes entries L used e = 2 ∨ putRes bytes entries L used e = 3 ∨ putRes bytes entries L used e = 7 ∨ putRes bytes entries L used e = 8 := by
  unfold putRes
  repeat' split
  all_goals simp
end Go.Proofs.YtfdnobhedbglgaaGreatDoor
