import Derived.Test.YtfdnobhedbglgaaGreatDoorSpool3
import Derived.Test.YtfdnobhedbglgaaGreatDoorPathCheck
namespace Go.Proofs.YtfdnobhedbglgaaGreatDoor
open Go Go.RowKit Go.Shelf
/-- The blocks that the links' iterator reads. -/
def spBlocks (g : Nat) (L : List Lk) : List Nat := g :: L.map (·.b)
theorem ptrOf_some {L : List Lk} {k : Nat} (h : k < L.length) : ptrOf L k = .pointer (some ⟨L[k].b, 0, none⟩) := by simp [ptrOf, h]
theorem ptrOf_end (L : List Lk) : ptrOf L L.length = .pointer none := by simp [ptrOf]
theorem slotOf_succ {g : Nat} {L : List Lk} {k : Nat} (h : k < L.length) : slotOf g L (k + 1) = ⟨L[k].b, 8, none⟩ := by simp [slotOf, h]
theorem slotOf_plain (g : Nat) (L : List Lk) (k : Nat) : ∃ b o, slotOf g L k = ⟨b, o, none⟩ := by
  cases k with
  | zero => exact ⟨_, _, rfl⟩
  | succ k => exact ⟨_, _, rfl⟩
def ptrBlk : Value → Nat
  | .pointer (some a) => a.block
  | _ => 0
/-- The first k places. -/
def fins {n k : Nat} (_h : k ≤ n) : List (Fin n) := (List.finRange n).take k
theorem fins_length {n k : Nat} (h : k ≤ n) : (fins h).length = k := by simp [fins]; omega
theorem fins_next {n k : Nat} (h : k ≤ n) (h2 : k + 1 ≤ n) : fins h2 = fins h ++ [⟨k, h2⟩] := by
  unfold fins
  rw [List.take_succ_eq_append_getElem (by simpa using (show k < n from h2))]
  simp
theorem slot_mem (g : Nat) (L : List Lk) (k : Nat) (hk : k ≤ L.length) {Bp : Nat} : (slotOf g L k).block ∈ Bp :: spBlocks g L := by
  cases k with
  | zero => simp [slotOf, spBlocks]
  | succ k => rw [slotOf_succ (by omega)]; simp only [spBlocks, List.mem_cons, List.mem_map]; exact .inr (.inr ⟨L[k], List.getElem_mem _, rfl⟩)
set_option maxHeartbeats 4000000 in
set_option maxRecDepth 100000 in
theorem links_closure (n : Nat) (hn : 1 ≤ n) (Bp g : Nat) (L : List Lk) (W : World)
    (hp : Boxed W Bp 25 (.pointer (some ⟨g, 0, none⟩))) (hsl : ∀ k, k ≤ L.length → W.cell? (slotOf g L k) = some (ptrOf L k)) (M : Nat) (hM : ∀ k, k < L.length → (slotOf g L k).block < (slotOf g L (k + 1)).block ∧ (slotOf g L (k + 1)).block < M) :
    RS.SeqState Fence.wide n Tryz.prog 75 #[.pointer (some ⟨Bp, 0, none⟩)] (fun x : Fin (L.length + 1) => #[.pointer (some (slotOf g L x.val))]) (fun _ => False) (KeepL (Bp :: spBlocks g L))
      (fun xs => xs = fins (Nat.le_refl (L.length + 1))) (fun pre => ∃ k, ∃ h : k ≤ L.length + 1, pre = fins h) (L.length + 1) W := by
  intro l J Jx hJ hJx hY h0
  refine callsIn_of_wp Tryz.func75 rfl trivial ?_ rfl
  simp only [Tryz.ntmps75, List.size_toArray, List.length_cons, List.length_nil, Nat.reduceAdd, Nat.reduceSub, Array.replicate_succ, Array.replicate_zero, List.push_toArray, List.append_toArray, List.nil_append, List.cons_append]
  have hp1 := hp.cell
  gi_wp2
  gi_loopw [3] (fun p wr => ∃ k : Nat, k ≤ L.length ∧ p = .pointer (some (slotOf g L k)) ∧ (∃ hf, J (fins (n := L.length + 1) (k := k) hf) wr) ∧ KeepL (Bp :: spBlocks g L) W wr) (fun p _ => M - ptrBlk p)
  case atStart => exact ⟨0, Nat.zero_le _, rfl, ⟨Nat.zero_le _, by simpa [fins] using h0⟩, ⟨Nat.le_refl _, fun _ _ => rfl⟩⟩
  case round =>
    obtain ⟨k, hk, rfl, ⟨hf, hJk⟩, hK⟩ := hrel
    have hlen : (fins hf).length < L.length + 1 := by rw [fins_length]; omega
    have hsk : ∀ W3, KeepL (Bp :: spBlocks g L) wr W3 → W3.cell? (slotOf g L k) = some (ptrOf L k) := by
      intro W3 h3
      rw [← hsl k hk]
      exact World.cell?_of_block ((hK.trans h3).2 _ (slot_mem g L k hk))
    have hnext := fins_next hf (show k + 1 ≤ L.length + 1 by omega)
    obtain ⟨fn, tmps, assign, body, hy, hR⟩ := hY (fins hf) ⟨k, by omega⟩ wr hJk hlen
    dsimp only at hy
    rw [← hnext] at hR
    have HN := Lib.hid hnext
    clear hnext
    by_cases hlt : k < L.length
    · rw [ptrOf_some hlt] at hsk
      have hs' := slotOf_succ (g := g) hlt
      have hMk := hM k hlt
      rw [hs'] at hMk
      have HS := Lib.hid hs'
      clear hs'
      obtain ⟨b, o, hbo⟩ := slotOf_plain g L k
      rw [hbo] at hsk hy hMk ⊢
      dsimp only at hMk
      have HBO := Lib.hid hbo
      clear hbo
      gi_wp2
      refine hR.mono ?_
      rintro e W3 (⟨rfl, hJ3, hk3⟩ | ⟨rfl, hJx3⟩)
      · have c3 := hsk W3 hk3
        gi_wp2
        go_roundw
        case rel => exact ⟨k + 1, by omega, by rw [HS.out], ⟨_, hJ3⟩, hK.trans hk3⟩
        case measure => simp [ptrBlk]; omega
      · gi_wp2
        go_end0
        exact ⟨⟨_, rfl⟩, .inr ⟨_, ⟨_, _, rfl⟩, hJx3⟩⟩
    · obtain rfl : k = L.length := by omega
      rw [ptrOf_end] at hsk
      obtain ⟨b, o, hbo⟩ := slotOf_plain g L L.length
      rw [hbo] at hsk hy ⊢
      have HBO := Lib.hid hbo
      clear hbo
      gi_wp2
      refine hR.mono ?_
      rintro e W3 (⟨rfl, hJ3, hk3⟩ | ⟨rfl, hJx3⟩)
      · have c3 := hsk W3 hk3
        gi_wp2
        go_end0
        exact ⟨⟨_, rfl⟩, .inl ⟨_, rfl, hJ3⟩⟩
      · gi_wp2
        go_end0
        exact ⟨⟨_, rfl⟩, .inr ⟨_, ⟨_, _, rfl⟩, hJx3⟩⟩
end Go.Proofs.YtfdnobhedbglgaaGreatDoor
