import Derived.Test.YtfdnobhedbglgaaGreatDoorSplit
import Derived.Test.YtfdnobhedbglgaaGreatDoorLays
import Derived.Shelf.Strings.SlTrimAscii
import Derived.Laws.RangeString
import Derived.Shelf.GgClosure.StringsIndexFunc
import Derived.WalkMore
namespace Go.Proofs.YtfdnobhedbglgaaGreatDoor
open Go Go.RowKit Go.Shelf
def isLetter (c : UInt8) : Bool := (97 ≤ c && c ≤ 122) || (48 ≤ c && c ≤ 57) || c == 46 || c == 95 || c == 45
def letters : List UInt8 := [97, 98, 99, 100, 101, 102, 103, 104, 105, 106, 107, 108, 109, 110, 111, 112, 113, 114, 115, 116, 117, 118, 119, 120, 121, 122, 48, 49, 50, 51, 52, 53, 54, 55, 56, 57, 46, 95, 45]
theorem byte_all (p : UInt8 → Bool) (h : (List.range 256).all (fun n => p (UInt8.ofNat n)) = true) (c : UInt8) : p c = true := by
  have := List.all_eq_true.1 h c.toNat (List.mem_range.2 c.toNat_lt)
  rwa [UInt8.ofNat_toNat] at this
theorem letters_mem (c : UInt8) : letters.contains c = isLetter c :=
  eq_of_beq (byte_all (fun c => letters.contains c == isLetter c) (by decide +kernel) c)
theorem letters_index (c : UInt8) : decide (0 ≤ Lib.indexByte letters c) = isLetter c :=
  eq_of_beq (byte_all (fun c => decide (0 ≤ Lib.indexByte letters c) == isLetter c) (by decide +kernel) c)
theorem isLetter_ascii (c : UInt8) (h : isLetter c = true) : c.toNat < 128 := by
  have := byte_all (fun c => !isLetter c || decide (c.toNat < 128)) (by decide +kernel) c
  simpa [h] using this
theorem dropWhile_nil {α : Type} (p : α → Bool) : ∀ l : List α, l.dropWhile p = [] ↔ l.all p = true
  | [] => by simp
  | a :: l => by
    have := dropWhile_nil p l
    by_cases h : p a = true
    · simp [List.dropWhile, h]; simpa using this
    · simp [List.dropWhile, h]
theorem trim_nil (l : List UInt8) : Lib.trimS l letters = [] ↔ l.all isLetter = true := by
  have e : (fun c => letters.contains c) = isLetter := funext letters_mem
  unfold Lib.trimS Lib.trimLeftS Lib.trimRightS
  simp only [e]
  rw [dropWhile_nil]
  constructor
  · intro h
    rw [List.all_reverse] at h
    by_cases hr : l.reverse.dropWhile isLetter = []
    · have := (dropWhile_nil isLetter l.reverse).1 hr
      rwa [List.all_reverse] at this
    · have h1 := List.head_dropWhile_not (p := isLetter) (l := l.reverse) hr
      have h2 := List.all_eq_true.1 h _ (List.head_mem hr)
      rw [h1] at h2; cases h2
  · intro h
    have : l.reverse.dropWhile isLetter = [] := (dropWhile_nil isLetter l.reverse).2 (by rw [List.all_reverse]; exact h)
    rw [this]; rfl
set_option maxHeartbeats 1000000 in
theorem part_f (r : Nat) (hr : r < 128) (w : World) : Calls Tryz.prog 107 #[.int .i32 (r : Int)] w fun e w' => e = .returned (.bool (!isLetter r.toUInt8)) ∧ w = w' := by
  go_enter Tryz.func107, Tryz.ntmps107
  go_wp2_with (go_at_call 108; refine (Any.strings_ContainsRune_ascii Tryz.lays151 _ _ _ (by omega) (by omega)).mono ?_; rintro e w' ⟨rfl, rfl⟩)
  go_ret
  refine ⟨?_, rfl⟩
  rw [← letters_index]
  rfl
set_option maxHeartbeats 2000000 in
set_option maxRecDepth 1000000 in
theorem indexFunc_letters (s : ByteArray) (hl : s.data.toList.all isLetter = true) (_hs : s.size ≤ 140737488351232) (w : World) :
    Calls Tryz.prog 125 #[.string s, .func (.func 107) #[] #[], .bool true] w fun e w' => e = .returned (.int .i64 (-1)) ∧ Below w.heap.size w w' := by
  have eg := enters_of Tryz.func107 (by kernel_rfl) rfl
  go_enter Tryz.func125, Tryz.ntmps125
  go_wp2
  go_loopg [] s.size (fun gf wx => ∃ pos : Nat, wx.heap[w.heap.size]? = some (.stringIter s pos) ∧ Below w.heap.size w wx ∧ pos + gf = s.size)
  case atStart => exact ⟨0, World.iter_heap w s 0, (Below.refl _ w).alloc (Nat.le_refl _) _, by omega⟩
  case round =>
    obtain ⟨pos, hit, hbw, hfu⟩ := hrel
    by_cases hps : pos < s.size
    · obtain ⟨g', rfl⟩ : ∃ g', gk = g' + 1 := ⟨gk - 1, by omega⟩
      have hlet : isLetter s[pos] = true := by
        refine List.all_eq_true.1 hl _ ?_
        have : s[pos] = s.data.toList[pos]'(by simpa using hps) := rfl
        rw [this]; exact List.getElem_mem _
      have hasc := isLetter_ascii _ hlet
      have hdec := decode_ascii s pos hps hasc
      have hnx : ∀ ty, (Instr.next (.pointer (some ⟨w.heap.size, 0, none⟩)) true ty).run Tryz.prog wr = _ := fun ty => Lib.run_next_any_at wr w.heap.size s pos ty hit hps
      rw [hdec] at hnx
      have hit2 := Lib.iterAt_heap wr w.heap.size s pos (pos + 1) hit
      have hbw2 := Lib.below_iterAt hbw (k := w.heap.size) (Nat.le_refl _) s (pos + 1)
      obtain ⟨W, hWd⟩ : ∃ W, wr.iterAt w.heap.size s (pos + 1) = W := ⟨_, rfl⟩
      dsimp only at hnx
      rw [hWd] at hnx hit2 hbw2
      have HD := Lib.hid hdec
      clear hdec
      have hr : isLetter s[pos].toNat.toUInt8 = true := by rw [← hlet]; congr 1; simp
      have cS := part_f s[pos].toNat hasc W
      rw [hr] at cS
      clear hr hlet hl hWd
      go_wp2_with (go_at_call 107; refine cS.mono ?_; rintro e W' ⟨rfl, rfl⟩)
      go_roundg g'
      case measure => omega
      case rel => exact ⟨pos + 1, hit2, hbw2, by omega⟩
    · have hnx : ∀ ty, (Instr.next (.pointer (some ⟨w.heap.size, 0, none⟩)) true ty).run Tryz.prog wr = _ := fun ty => Lib.run_next_end_at wr w.heap.size s pos ty hit hps
      go_wp2
      go_ret
      exact ⟨rfl, hbw⟩
theorem IndexFunc_letters (s : ByteArray) (hl : s.data.toList.all isLetter = true) (hs : s.size ≤ 140737488351232) (w : World) :
    Calls Tryz.prog 119 #[.string s, .func (.func 107) #[] #[]] w fun e w' => e = .returned (.int .i64 (-1)) ∧ Below w.heap.size w w' := by
  go_enter Tryz.func119, Tryz.ntmps119
  go_wp2_with (go_at_call 125; refine (indexFunc_letters s hl hs _).mono ?_; rintro e w' ⟨rfl, hb⟩)
  go_ret
  exact ⟨rfl, hb⟩
theorem ContainsFunc_letters (s : ByteArray) (hl : s.data.toList.all isLetter = true) (hs : s.size ≤ 140737488351232) (w : World) :
    Calls Tryz.prog 106 #[.string s, .func (.func 107) #[] #[]] w fun e w' => e = .returned (.bool false) ∧ Below w.heap.size w w' := by
  go_enter Tryz.func106, Tryz.ntmps106
  go_wp2_with (go_at_call 119; refine (IndexFunc_letters s hl hs _).mono ?_; rintro e w' ⟨rfl, hb⟩)
  go_ret
  exact ⟨rfl, hb⟩
def partL (l : List UInt8) : Bool := decide (l ≠ []) && decide (l.length ≤ 12) && decide (l ≠ [46]) && decide (l ≠ [46, 46]) && l.all isLetter
theorem Trim_letters (s : ByteArray) (hs : s.size ≤ 140737488351232) (w : World) :
    Calls Tryz.prog 105 #[.string s, .string ⟨#[97, 98, 99, 100, 101, 102, 103, 104, 105, 106, 107, 108, 109, 110, 111, 112, 113, 114, 115, 116, 117, 118, 119, 120, 121, 122, 48, 49, 50, 51, 52, 53, 54, 55, 56, 57, 46, 95, 45]⟩] w fun e w' => (∃ t : ByteArray, e = .returned (.string t) ∧ t.toList.isEmpty = s.data.toList.all isLetter) ∧ Below w.heap.size w w' := by
  refine (Any.strings_Trim_laid Tryz.lays160 (by kernel_rfl) s ⟨#[97, 98, 99, 100, 101, 102, 103, 104, 105, 106, 107, 108, 109, 110, 111, 112, 113, 114, 115, 116, 117, 118, 119, 120, 121, 122, 48, 49, 50, 51, 52, 53, 54, 55, 56, 57, 46, 95, 45]⟩ w (by omega) (by decide) (ascii_of_all (by decide))).mono ?_
  rintro e w' ⟨rfl, hb⟩
  refine ⟨⟨_, rfl, ?_⟩, hb⟩
  rw [Lib.toList_data, Bool.eq_iff_iff, List.isEmpty_iff, ← trim_nil]
  simp [letters]
set_option maxHeartbeats 2000000 in
theorem path_part (s : ByteArray) (hs : s.size ≤ 140737488351232) (w : World) : Calls Tryz.prog 96 #[.string s] w fun e w' => e = .returned (.bool (partL s.data.toList)) ∧ Below w.heap.size w w' := by
  have hT := Trim_letters s hs w
  by_cases hl : s.data.toList.all isLetter = true
  · have hC := ContainsFunc_letters s hl hs
    go_enter Tryz.func96, Tryz.ntmps96
    go_wp2_with (first | (go_at_call 105; refine hT.mono ?_; rintro e w' ⟨⟨t, rfl, ht⟩, hb⟩) | (go_at_call 106; refine (hC _).mono ?_; rintro e w2 ⟨rfl, hb2⟩))
    all_goals
      go_ret
      refine ⟨?_, by first | exact Below.refl _ _ | exact hb.trans (hb2.mono hb.size)⟩
      clear hT
      try clear hC
      have hsz : (s.size : Int) = s.data.toList.length := by simp
      simp only [Lib.toList_data, hsz] at *
      clear hsz
      generalize s.data.toList = l at *
      simp only [partL, hl, Bool.and_true]
      clear hl
      first
        | (have h12 : l.length ≤ 12 := by omega
           simp_all; done)
        | (have h12 : ¬ l.length ≤ 12 := by omega
           simp_all; done)
        | (simp_all; done)
        | (simp_all; omega)
  · have hl' : s.data.toList.all isLetter = false := by simpa using hl
    rw [hl'] at hT
    go_enter Tryz.func96, Tryz.ntmps96
    go_wp2_with (first | (go_at_call 105; refine hT.mono ?_; rintro e w' ⟨⟨t, rfl, ht⟩, hb⟩))
    all_goals
      go_ret
      refine ⟨?_, by first | exact Below.refl _ _ | exact hb⟩
      clear hT
      try clear hC
      have hsz : (s.size : Int) = s.data.toList.length := by simp
      simp only [Lib.toList_data, hsz] at *
      clear hsz
      generalize s.data.toList = l at *
      simp only [partL, hl', Bool.and_false]
      clear hl' hl
      first
        | (have h12 : l.length ≤ 12 := by omega
           simp_all; done)
        | (have h12 : ¬ l.length ≤ 12 := by omega
           simp_all; done)
        | (simp_all; done)
        | (simp_all; omega)
end Go.Proofs.YtfdnobhedbglgaaGreatDoor
