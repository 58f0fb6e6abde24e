import Derived.Test.YtfdnobhedbglgaaGreatDoorKit1
namespace Go.Proofs.YtfdnobhedbglgaaGreatDoor
open Go Go.RowKit Go.Shelf
/-- The chapter's events. -/
def evOne : Ev := ⟨1, 1, ⟨#[102]⟩, 1, 0, [], []⟩
def evTwo : Ev := ⟨2, 1, ⟨#[102]⟩, 3, 0, [], [⟨1, 1, 1⟩]⟩
section
variable {w : World} {g : Nat} {bytes entries : Int} {L : List Lk} {used most : Int}
set_option maxHeartbeats 1000000 in
theorem law_used (h : SpoolAt w g bytes entries L used most) (b n : Int) : Calls Tryz.prog 21 #[.pointer (some ⟨g, 0, none⟩), .int .i64 b, .int .i64 n] w fun e w' => e = .returned (.bool (used == b && (L.length : Int) == n)) ∧ Below w.heap.size w w' := by
  by_cases hb : used = b
  · subst hb
    have E := Lib.hid (show (used == used && (L.length : Int) == n) = ((L.length : Int) == n) from by simp)
    go_enter Tryz.func21, Tryz.ntmps21
    go_wp2_with (go_at_call 35; refine (spool_Used h).mono ?_; rintro e w1 ⟨rfl, hb1⟩)
    go_ret
    exact ⟨by rw [E.out]; rfl, hb1⟩
  · have hbe : (used == b) = false := by simp [hb]
    have E := Lib.hid (show (used == b && (L.length : Int) == n) = false from by simp [hb])
    clear hb
    go_enter Tryz.func21, Tryz.ntmps21
    go_wp2_with (go_at_call 35; refine (spool_Used h).mono ?_; rintro e w1 ⟨rfl, hb1⟩)
    go_ret
    exact ⟨by rw [E.out]; rfl, hb1⟩
theorem nil_by (W : World) : ByS W (.slice none 0 0) [] := ⟨none, 0, rfl, Nat.le_refl _, fun _ => rfl, fun h => by simp [byCells] at h⟩
theorem nil_sp (W : World) : SpS W (.slice none 0 0) [] := ⟨none, 0, rfl, Nat.le_refl _, fun _ => rfl, fun h => by simp [spCells] at h⟩
abbrev oneV : Value := .agg #[.int .i64 1, .int .i64 1, .string ⟨#[102]⟩, .int .i64 1, .int .i64 0, .slice none 0 0, .slice none 0 0]
set_option maxHeartbeats 2000000 in
theorem law_one' (w : World) : Calls Tryz.prog 26 #[] w fun e w' => (e = .returned oneV ∧ EvAt w' evOne oneV) ∧ Below w.heap.size w w' := by
  go_enter Tryz.func26, Tryz.ntmps26
  go_wp2
  have F1 := World.alloc_heap_new w (.cells #[.int .i64 1, .int .i64 1, .string ⟨#[102]⟩, .int .i64 1, .int .i64 0, .slice none 0 0, .slice none 0 0] 39)
  have hb := below_alloc (Below.refl _ w) (.cells #[.int .i64 1, .int .i64 1, .string ⟨#[102]⟩, .int .i64 1, .int .i64 0, .slice none 0 0, .slice none 0 0] 39)
  generalize (w.alloc _) = WF at *
  have z0 := blk_cell F1 0; have z1 := blk_cell F1 1; have z2 := blk_cell F1 2; have z3 := blk_cell F1 3; have z4 := blk_cell F1 4; have z5 := blk_cell F1 5; have z6 := blk_cell F1 6
  simp at z0 z1 z2 z3 z4 z5 z6
  refine bodyPost_ret (v := .agg #[.int .i64 1, .int .i64 1, .string ⟨#[102]⟩, .int .i64 1, .int .i64 0, .slice none 0 0, .slice none 0 0]) (by simp [results, Tryz.results26, go_sem, z0, z1, z2, z3, z4, z5, z6]) rfl ⟨⟨rfl, none, 0, none, 0, rfl, nil_by _, nil_sp _⟩, hb⟩
theorem law_one (w : World) : Calls Tryz.prog 26 #[] w fun e w' => (∃ v, e = .returned v ∧ EvAt w' evOne v) ∧ Below w.heap.size w w' := (law_one' w).mono fun _ _ h => ⟨⟨_, h.1.1, h.1.2⟩, h.2⟩
set_option maxHeartbeats 2000000 in
theorem law_two (w : World) : Calls Tryz.prog 27 #[] w fun e w' => (∃ v, e = .returned v ∧ EvAt w' evTwo v) ∧ Below w.heap.size w w' := by
  go_enter Tryz.func27, Tryz.ntmps27
  go_wp2
  obtain ⟨hsz, hb, F1, F2⟩ := two_new w (.cells #[.int .i64 2, .int .i64 1, .string ⟨#[102]⟩, .int .i64 3, .int .i64 0, .slice none 0 0, .slice (some ⟨w.heap.size + 1, 0, none⟩) 1 1] 39) (.cells #[.int .i64 1, .int .i64 1, .int .i64 1] 95)
  clear hsz
  generalize ((w.alloc _).alloc _) = WF at *
  have z0 := blk_cell F1 0; have z1 := blk_cell F1 1; have z2 := blk_cell F1 2; have z3 := blk_cell F1 3; have z4 := blk_cell F1 4; have z5 := blk_cell F1 5; have z6 := blk_cell F1 6
  simp at z0 z1 z2 z3 z4 z5 z6
  refine bodyPost_ret (v := .agg #[.int .i64 2, .int .i64 1, .string ⟨#[102]⟩, .int .i64 3, .int .i64 0, .slice none 0 0, .slice (some ⟨w.heap.size + 1, 0, none⟩) 1 1]) (by simp [results, Tryz.results27, go_sem, z0, z1, z2, z3, z4, z5, z6]) rfl ⟨⟨_, rfl, none, 0, some ⟨w.heap.size + 1, 0, none⟩, 1, rfl, nil_by _, ?_⟩, hb⟩
  refine ⟨_, _, rfl, by simp [evTwo], by simp, fun _ => ⟨_, _, rfl, fun j u hu => ?_⟩⟩
  rw [blk_cell F2, ← hu]
  simp [spCells, evTwo]
/-- A call, as it lies in the argument. -/
structure Ac where
  drop : Bool
  e : Ev
  A : Option Addr
  c : Nat
  B : Option Addr
  d : Nat
def Ac.cells (a : Ac) : List Value := [.bool a.drop, .int .i64 a.e.node, .int .i64 a.e.seq, .string a.e.path, .int .i64 a.e.kind, .int .i64 a.e.mode, .slice a.A a.e.bytes.length a.c, .slice a.B a.e.past.length a.d]
/-- The argument: calls in a row. -/
def ActsAt (W : World) (l : List Ac) (A : Option Addr) : Prop := ∀ k a, l[k]? = some a → ∃ b o, A = some ⟨b, o, none⟩ ∧ (∀ j u, a.cells[j]? = some u → W.cell? ⟨b, o + k * 8 + j, none⟩ = some u) ∧ EvAt W a.e (a.e.val a.A a.c a.B a.d)
theorem ActsAt.below {W W' : World} {l : List Ac} {A : Option Addr} (h : ActsAt W l A) (hb : Below W.heap.size W W') : ActsAt W' l A := by
  intro k a ha
  obtain ⟨b, o, rfl, hc, hv⟩ := h k a ha
  exact ⟨b, o, rfl, fun j u hu => by have h1 := hc j u hu; exact ((bcell hb).1 _ _ (cell_lt h1)).trans h1, hv.below hb⟩
def longL (l : List Ac) : Bool := l.any (fun a => longEv a.e) || decide (40 < l.length)
set_option maxHeartbeats 4000000 in
set_option maxRecDepth 100000 in
theorem law_long (l : List Ac) (A : Option Addr) (c : Nat) (w : World) (h : ActsAt w l A) (hn : l.length ≤ 10000000000000) : Calls Tryz.prog 5 #[.slice A l.length c] w fun e w' => e = .returned (.bool (longL l)) ∧ Below w.heap.size w w' := by
  go_enter Tryz.func5, Tryz.ntmps5
  go_wp2
  go_loopw [3] (fun i wr => (∃ k : Nat, k ≤ l.length ∧ i = .int .i64 k ∧ (l.take k).any (fun a => longEv a.e) = false) ∧ Below w.heap.size w wr) (fun i _ => l.length - (intOf i).toNat)
  case atStart => exact ⟨⟨0, Nat.zero_le _, rfl, rfl⟩, Below.refl _ _⟩
  case round =>
    obtain ⟨⟨k, hk, rfl, hl⟩, hbw⟩ := hrel
    by_cases hlt : k < l.length
    · obtain ⟨b, o, rfl, hc, hv⟩ := (h.below hbw) k _ (List.getElem?_eq_getElem hlt)
      have HL := Lib.hid hl
      have HT := Lib.hid (List.take_succ_eq_append_getElem hlt)
      obtain ⟨a, ha⟩ : ∃ a, l[k] = a := ⟨_, rfl⟩
      rw [ha] at hc hv
      have HA := Lib.hid ha
      have x1 := hc 1 _ rfl; have x2 := hc 2 _ rfl; have x3 := hc 3 _ rfl; have x4 := hc 4 _ rfl; have x5 := hc 5 _ rfl; have x6 := hc 6 _ rfl; have x7 := hc 7 _ rfl
      have H := Lib.hid h
      clear hc h hl ha
      have hb1 : (0 : Int) ≤ (k : Int) := by omega
      have hb2 : (k : Int) < (l.length : Int) := by omega
      have hbn := below_alloc (Below.refl _ wr) (.cells #[.int .i64 a.e.node, .int .i64 a.e.seq, .string a.e.path, .int .i64 a.e.kind, .int .i64 a.e.mode, .slice a.A a.e.bytes.length a.c, .slice a.B a.e.past.length a.d] 39)
      have hnew := World.alloc_heap_new wr (.cells #[.int .i64 a.e.node, .int .i64 a.e.seq, .string a.e.path, .int .i64 a.e.kind, .int .i64 a.e.mode, .slice a.A a.e.bytes.length a.c, .slice a.B a.e.past.length a.d] 39)
      have HN := Lib.hid (And.intro hbn hnew)
      clear hbn hnew
      go_wp2_with fail
      obtain ⟨hbn, hnew⟩ := HN.out
      clear HN
      have hnb : Below w.heap.size w (wr.alloc (.cells #[.int .i64 a.e.node, .int .i64 a.e.seq, .string a.e.path, .int .i64 a.e.kind, .int .i64 a.e.mode, .slice a.A a.e.bytes.length a.c, .slice a.B a.e.past.length a.d] 39)) := below_trans hbw hbn
      generalize (wr.alloc _) = W2 at *
      refine (kit_LongEvents a.e a.A a.c a.B a.d wr.heap.size W2 hnew).mono ?_
      cases hlg : longEv a.e with
      | true =>
        have E := Lib.hid (show longL l = true from by
          unfold longL
          rw [Bool.or_eq_true]
          exact .inl (List.any_eq_true.2 ⟨a, by rw [← HA.out]; exact List.getElem_mem _, hlg⟩))
        rintro e w3 ⟨rfl, hb3⟩
        go_wp2_with fail
        go_ret
        exact ⟨by rw [E.out]; rfl, below_trans hnb hb3⟩
      | false =>
        have E := Lib.hid hlg
        clear hlg
        rintro e w3 ⟨rfl, hb3⟩
        go_wp2_with fail
        exact ⟨⟨⟨k + 1, by omega, by simp, by rw [HT.out, List.any_append, HL.out, HA.out]; simp [E.out]⟩, below_trans hnb hb3⟩, by simp [intOf]; omega⟩
    · obtain rfl : k = l.length := by omega
      have E := Lib.hid (show longL l = decide (40 < (l.length : Int)) from by
        rw [List.take_length] at hl
        unfold longL
        rw [hl, Bool.false_or]
        congr 1
        simp; omega)
      clear hl
      go_wp2
      go_ret
      exact ⟨by rw [E.out]; rfl, hbw⟩
end
end Go.Proofs.YtfdnobhedbglgaaGreatDoor
