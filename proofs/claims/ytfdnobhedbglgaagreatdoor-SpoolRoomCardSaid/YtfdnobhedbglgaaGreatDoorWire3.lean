import Derived.Test.YtfdnobhedbglgaaGreatDoorWire2
import Derived.Lib.ConvBytes
import Derived.Laws.ByValue
namespace Go.Proofs.YtfdnobhedbglgaaGreatDoor
open Go Go.RowKit Go.Shelf
theorem KeepX.trans {g : Nat} {row : Option Nat} {w W W' : World} (h : KeepX g row w W) (k : KeepX g row W W') : KeepX g row w W' :=
  ⟨Nat.le_trans h.1 k.1, fun b h1 h2 h3 => (k.2 b (Nat.lt_of_lt_of_le h1 h.1) h2 h3).trans (h.2 b h1 h2 h3)⟩
/-- A row that is new stays as it was while others are written. -/
theorem own_by_keep {W : World} {base : Nat} {e : TypeId} {v : Value} {xs : List UInt8} (h : W.ownsRow base e 1 v xs.length (byCells xs)) {g : Nat} {row : Option Nat} (hn : ∀ b, v.ownBlock = some b → b ≠ g ∧ some b ≠ row) :
    ∀ W', KeepX g row W W' → ByS W' v xs := by
  intro W' hk
  obtain ⟨A, c, rfl, h1, h2, h3⟩ := own_by h
  refine ⟨A, c, rfl, h1, h2, fun h0 => ?_⟩
  obtain ⟨b, o, rfl, hc⟩ := h3 h0
  refine ⟨b, o, rfl, fun j u hu => ?_⟩
  have hlt := cell_lt (hc j u hu)
  have := hk.2 b hlt (hn b rfl).1 (hn b rfl).2
  rw [← hc j u hu]
  exact World.cell?_of_block (w := W) (a := ⟨b, o + j, none⟩) this
/-- What lies below g stays as it was. -/
theorem by_keep {W : World} {v : Value} {xs : List UInt8} (h : ByS W v xs) {g B : Nat} {row : Option Nat} (hg : B ≤ g) (hr : ∀ b, row = some b → B ≤ b) (hv : ∀ b, v.ownBlock = some b → 0 < xs.length → b < B) :
    ∀ W', KeepX g row W W' → ByS W' v xs := by
  intro W' hk
  obtain ⟨A, c, rfl, h1, h2, h3⟩ := h
  refine ⟨A, c, rfl, h1, h2, fun h0 => ?_⟩
  obtain ⟨b, o, rfl, hc⟩ := h3 h0
  have hb := hv b rfl (by rwa [byCells_length] at h0)
  refine ⟨b, o, rfl, fun j u hu => ?_⟩
  have hlt := cell_lt (hc j u hu)
  have := hk.2 b hlt (by omega) (fun e => by have := hr b e.symm; omega)
  rw [← hc j u hu]
  exact World.cell?_of_block (w := W) (a := ⟨b, o + j, none⟩) this
def Wrote (g : Nat) (v : Value) (bs : List UInt8) (w w' : World) : Prop := (∃ v', WrS w' g v' bs ∧ KeepX g v.ownBlock w w') ∧ Below g w w'
set_option maxHeartbeats 4000000 in
set_option maxRecDepth 100000 in
theorem wire_Num (g : Nat) (v : Value) (bs : List UInt8) (n : Nat) (hn : n ≤ 4611686018427387903) (w : World) (hw : WrS w g v bs) (hl : bs.length + (many n + 1) ≤ 1048576) :
    Calls Tryz.prog 70 #[.pointer (some ⟨g, 0, none⟩), .int .i64 (n : Int)] w fun e w' => e = .returned (.tuple #[]) ∧ Wrote g v (bs ++ numB n) w w' := by
  have h1 := hw.1
  have hgl := (Array.getElem?_eq_some_iff.1 h1).1
  have hvl := own_lt' hw.2.1
  have c0 := blk_cell h1 0; have c1 := blk_cell h1 1; have c2 := blk_cell h1 2
  simp at c0 c1 c2
  have HNL := Lib.hid (numB_length n (by omega))
  go_enter Tryz.func70, Tryz.ntmps70
  go_wp2_with (go_at_call 93; refine (wire_form n hn _).mono ?_; rintro e w1 ⟨⟨v1, rfl, ho⟩, hb1⟩; obtain ⟨A1, cc, rfl, -⟩ := own_row ho)
  have hbase := own_base' ho
  have hlt1 := own_lt' ho
  have hb2 := hb1.alloc hb1.size (.cells #[Value.slice A1 (numB n).length cc] 34)
  have hX : KeepX g v.ownBlock w (w1.alloc (.cells #[Value.slice A1 (numB n).length cc] 34)) := (KeepX.refl _ _ _).below hb2
  refine (wire_put g w1.heap.size v bs [(Value.slice A1 (numB n).length cc, numB n)] _ (hw.keep hb2) (World.alloc_heap_new _ _) ?_ ?_ (by simp)).mono ?_
  · intro p hp
    simp only [List.mem_singleton] at hp
    subst hp
    exact own_by_keep (ho.alloc _) (fun b e => ⟨by have := hbase b e; omega, fun e2 => by have := hvl b e2.symm; have := hbase b e; omega⟩)
  · simp [lens, HNL.out]; omega
  · rintro e w2 ⟨rfl, ⟨v', hw', hk'⟩, hb3⟩
    go_wp2
    go_end0
    refine ⟨rfl, ⟨v', by simpa [cat] using hw', hX.trans hk'⟩, (hb2.mono (by omega)).trans hb3⟩
def rawB (xs : List UInt8) : List UInt8 := numB xs.length ++ xs
set_option maxHeartbeats 4000000 in
set_option maxRecDepth 100000 in
theorem wire_Raw (g : Nat) (v : Value) (bs : List UInt8) (A : Option Addr) (c : Nat) (xs : List UInt8) (w : World) (hw : WrS w g v bs) (hx : ∀ W', KeepX g v.ownBlock w W' → ByS W' (.slice A xs.length c) xs) (hn : xs.length ≤ 1048576) (hl : bs.length + (many xs.length + 1 + xs.length) ≤ 1048576) :
    Calls Tryz.prog 72 #[.pointer (some ⟨g, 0, none⟩), .slice A xs.length c] w fun e w' => e = .returned (.tuple #[]) ∧ Wrote g v (bs ++ rawB xs) w w' := by
  have hmf : ∀ (fn : Fn) (first cap : Array Value) (w : World), (Instr.makeFunc fn first cap).run Tryz.prog w = .ok (.func fn first cap) w := fun _ _ _ _ => rfl
  have h1 := hw.1
  have hgl := (Array.getElem?_eq_some_iff.1 h1).1
  have hvl := own_lt' hw.2.1
  have HNL := Lib.hid (numB_length xs.length (by omega))
  go_enter Tryz.func72, Tryz.ntmps72
  go_wp2_with (go_at_call 93; refine (wire_form xs.length (by omega) _).mono ?_; rintro e w1 ⟨⟨v1, rfl, ho⟩, hb1⟩; obtain ⟨A1, cc, rfl, -⟩ := own_row ho)
  have hbase := own_base' ho
  have hb2 := hb1.alloc hb1.size (.cells #[Value.slice A1 (numB xs.length).length cc, Value.slice A xs.length c] 34)
  have hX : KeepX g v.ownBlock w (w1.alloc (.cells #[Value.slice A1 (numB xs.length).length cc, Value.slice A xs.length c] 34)) := (KeepX.refl _ _ _).below hb2
  refine (wire_put g w1.heap.size v bs [(Value.slice A1 (numB xs.length).length cc, numB xs.length), (Value.slice A xs.length c, xs)] _ (hw.keep hb2) (World.alloc_heap_new _ _) ?_ ?_ (by simp)).mono ?_
  · intro p hp
    simp only [List.mem_cons, List.not_mem_nil, or_false] at hp
    rcases hp with rfl | rfl
    · exact own_by_keep (ho.alloc _) (fun b e => ⟨by have := hbase b e; omega, fun e2 => by have := hvl b e2.symm; have := hbase b e; omega⟩)
    · exact fun W' hk => hx W' (hX.trans hk)
  · simp [lens, HNL.out]; omega
  · rintro e w2 ⟨rfl, ⟨v', hw', hk'⟩, hb3⟩
    go_wp2
    go_end0
    refine ⟨rfl, ⟨v', by simpa [cat, rawB] using hw', hX.trans hk'⟩, (hb2.mono (by omega)).trans hb3⟩
theorem conv_below (w : World) (e : TypeId) (s : ByteArray) : Below w.heap.size w (Lib.bytesWorld w e s) :=
  ⟨rfl, rfl, rfl, by rw [Lib.bytesWorld_size]; omega, fun i hi => Lib.bytesWorld_at_old w e s i hi⟩
theorem size_list (s : ByteArray) : s.data.toList.length = s.size := by simp
theorem conv_by (w : World) (e : TypeId) (s : ByteArray) : ByS (Lib.bytesWorld w e s) (.slice (some ⟨w.heap.size, 0, none⟩) s.data.toList.length (grownCap w s.size 0 e)) s.data.toList := by
  refine ⟨_, _, rfl, by rw [size_list]; exact grownCap_ge _ _ _ _, by simp, fun _ => ⟨_, 0, rfl, fun j u hu => ?_⟩⟩
  simp only [byCells, List.getElem?_map, Option.map_eq_some_iff] at hu
  obtain ⟨b, hb, rfl⟩ := hu
  have hj := (List.getElem?_eq_some_iff.1 hb).1
  rw [Nat.zero_add, Lib.bytesWorld_cell w e s j (by simpa using hj)]
  simp [List.getD, hb]
set_option maxHeartbeats 4000000 in
set_option maxRecDepth 100000 in
theorem wire_Text (g : Nat) (v : Value) (bs : List UInt8) (s : ByteArray) (w : World) (hw : WrS w g v bs) (hn : s.size ≤ 1048576) (hl : bs.length + (many s.size + 1 + s.size) ≤ 1048576) :
    Calls Tryz.prog 71 #[.pointer (some ⟨g, 0, none⟩), .string s] w fun e w' => e = .returned (.tuple #[]) ∧ Wrote g v (bs ++ rawB s.data.toList) w w' := by
  have hcv := fun w : World => Lib.run_convert_string_bytes (P := Tryz.prog) w 9 34 5 s Tryz.underlying9 Tryz.underlying34 Tryz.underlying5
  have hb := conv_below w 5 s
  have hx := conv_by w 5 s
  have hgl := (Array.getElem?_eq_some_iff.1 hw.1).1
  have hvl := own_lt' hw.2.1
  have hw2 := hw.keep hb
  have hX : KeepX g v.ownBlock w (Lib.bytesWorld w 5 s) := (KeepX.refl _ _ _).below hb
  have hR := wire_Raw g v bs (some ⟨w.heap.size, 0, none⟩) (grownCap w s.size 0 5) s.data.toList (Lib.bytesWorld w 5 s) hw2 ?_ (by rw [size_list]; exact hn) (by rw [size_list]; exact hl)
  · rw [size_list] at hR
    have HR := Lib.hid hR
    have HB := Lib.hid hb
    clear hR hx hw2 hb
    go_enter Tryz.func71, Tryz.ntmps71
    go_wp2_with (go_at_call 72; refine (HR.out).mono ?_; rintro e w2 ⟨rfl, ⟨v', hw', hk'⟩, hb3⟩)
    go_end0
    exact ⟨rfl, ⟨v', hw', hX.trans hk'⟩, (HB.out.mono (by omega)).trans hb3⟩
  · intro W' hk
    obtain ⟨A, c, e, h1, h2, h3⟩ := hx
    cases e
    refine ⟨_, _, rfl, h1, by simp, fun h0 => ?_⟩
    obtain ⟨b, o, e, hc⟩ := h3 h0
    cases e
    refine ⟨_, _, rfl, fun j u hu => ?_⟩
    have hlt := cell_lt (hc j u hu)
    have := hk.2 w.heap.size hlt (by omega) (fun e => by have := hvl _ e.symm; omega)
    rw [← hc j u hu]
    exact World.cell?_of_block (w := Lib.bytesWorld w 5 s) (a := ⟨w.heap.size, 0 + j, none⟩) this
set_option maxHeartbeats 4000000 in
set_option maxRecDepth 100000 in
theorem wire_Out (g : Nat) (v : Value) (bs : List UInt8) (w : World) (hw : WrS w g v bs) :
    Calls Tryz.prog 73 #[.pointer (some ⟨g, 0, none⟩)] w fun e w' => (∃ v', e = .returned (.tuple #[v', .int .i64 0]) ∧ w'.ownsRow w.heap.size 5 1 v' bs.length (byCells bs)) ∧ Below w.heap.size w w' := by
  obtain ⟨h1, h2, h3⟩ := hw
  have c0 := blk_cell h1 0; have c1 := blk_cell h1 1; have c2 := blk_cell h1 2
  simp at c0 c1 c2
  obtain ⟨A, c, rfl, -⟩ := own_row h2
  have hb := own_by h2
  go_enter Tryz.func73, Tryz.ntmps73
  go_wp2_with (go_at_call 94; refine (bytes_Clone _ _ _ hb (by omega)).mono ?_; rintro e w2 ⟨⟨v', rfl, ho⟩, hb2⟩; obtain ⟨A2, cc, rfl, -⟩ := own_row ho)
  go_ret2
  exact ⟨⟨_, rfl, ho⟩, hb2⟩
end Go.Proofs.YtfdnobhedbglgaaGreatDoor
