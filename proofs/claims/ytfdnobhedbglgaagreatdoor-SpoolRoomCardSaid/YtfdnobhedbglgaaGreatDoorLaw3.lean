import Derived.Test.YtfdnobhedbglgaaGreatDoorLaw2
namespace Go.Proofs.YtfdnobhedbglgaaGreatDoor
open Go Go.RowKit Go.Shelf
theorem one_ok : evOne.ok = true := by decide +kernel
theorem two_ok : evTwo.ok = true := by decide +kernel
theorem rawB_len (xs : List UInt8) (h : xs.length < 18446744073709551616) : (rawB xs).length = many xs.length + 1 + xs.length := by
  unfold rawB; rw [List.length_append, numB_length _ h]
theorem effBs_one (k : Nat) (h : effOk k 0 0 = true) (hk : k < 256) (h0 : k ≠ 0) : (effBs k 0 []).length = 4 := by
  have m1 : many k = 1 := many_small ⟨k, hk⟩ h0
  unfold effBs
  rw [if_pos (by simpa using h)]
  unfold effB
  rw [List.length_append, List.length_append, numB_length _ (by simp; omega), numB_length _ (by simp), rawB_len _ (by simp)]
  simp [m1, many_zero]
theorem eventBs_len {e : Ev} (h : e.ok = true) (hn : e.node.toNat < 18446744073709551616) (hs : e.seq.toNat < 18446744073709551616) (hp : e.path.data.toList.length < 18446744073709551616) :
    e.size = (many e.node.toNat + 1) + (many e.seq.toNat + 1) + (many e.path.data.toList.length + 1 + e.path.data.toList.length) + (many (effBs e.kind e.mode e.bytes).length + 1 + (effBs e.kind e.mode e.bytes).length) + (many (pastBs e.past).length + 1 + (pastBs e.past).length) := by
  have h1 := effBs_length e.kind e.mode e.bytes
  have h2 := pastBs_length e.past
  have h' : evOkF e.node e.seq e.path.data.toList e.kind e.mode e.bytes.length e.past = true := h
  unfold Ev.size evSize eventBs
  rw [if_pos h']
  unfold eventB
  rw [List.length_append, List.length_append, List.length_append, List.length_append, numB_length _ hn, numB_length _ hs, rawB_len _ hp, rawB_len _ (by omega), rawB_len _ (by omega)]
theorem pastBs_len {ps : List Sp} (h : pastOk ps = true) : (pastBs ps).length = 2 + 9 * ps.length := by
  unfold pastBs
  rw [if_pos h]
  unfold pastB
  exact pastPre_length _ _
theorem one_size : evOne.size = 17 := by
  rw [eventBs_len one_ok (by decide) (by decide) (by decide)]
  have e1 : (effBs evOne.kind evOne.mode evOne.bytes).length = 4 := effBs_one 1 (by decide) (by decide) (by decide)
  have e2 : (pastBs evOne.past).length = 2 := pastBs_len (by decide)
  rw [e1, e2]
  decide +kernel
theorem two_size : evTwo.size = 26 := by
  rw [eventBs_len two_ok (by decide) (by decide) (by decide)]
  have e1 : (effBs evTwo.kind evTwo.mode evTwo.bytes).length = 4 := effBs_one 3 (by decide) (by decide) (by decide)
  have e2 : (pastBs evTwo.past).length = 11 := pastBs_len (by decide)
  rw [e1, e2]
  decide +kernel
theorem one_short : evOne.short := ⟨by decide, by decide, by decide⟩
theorem two_short : evTwo.short := ⟨by decide, by decide, by decide⟩
end Go.Proofs.YtfdnobhedbglgaaGreatDoor
