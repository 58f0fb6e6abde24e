import Derived.Test.YtfdnobhedbglgaaGreatDoorMem
import Derived.Test.YtfdnobhedbglgaaGreatDoorLays
import Derived.Lib.BitFns
import Derived.Lib.ItoaNum
namespace Go.Proofs.YtfdnobhedbglgaaGreatDoor
open Go Go.RowKit Go.Shelf
/-- A number's bytes, the greatest first. -/
def be (n : Nat) : List UInt8 := if _h : n = 0 then [] else be (n / 256) ++ [UInt8.ofNat (n % 256)]
termination_by n
decreasing_by omega
theorem be_zero : be 0 = [] := by unfold be; simp
theorem be_pos {n : Nat} (h : n ≠ 0) : be n = be (n / 256) ++ [UInt8.ofNat (n % 256)] := by rw [be, dif_neg h]
def many (n : Nat) : Nat := (Lib.bitLen n + 7) / 8
theorem many_zero : many 0 = 0 := by decide
theorem many_small : ∀ n : Fin 256, n.val ≠ 0 → many n.val = 1 := by decide +kernel
theorem many_step {n : Nat} (h : n ≠ 0) (hn : n < 18446744073709551616) : many n = many (n / 256) + 1 := by
  by_cases h2 : 256 ≤ n
  · unfold many
    rw [Lib.bitLen_shift8 n h2 hn]; omega
  · have h3 : n / 256 = 0 := by omega
    rw [h3, many_zero]
    exact many_small ⟨n, by omega⟩ h
theorem be_length (n : Nat) (hn : n < 18446744073709551616) : (be n).length = many n := by
  induction n using Nat.strongRecOn with
  | _ n ih =>
    by_cases h : n = 0
    · subst h; rw [be_zero, many_zero]; rfl
    · rw [be_pos h, many_step h hn]
      simp [ih (n / 256) (by omega) (by omega)]
theorem many_le (n : Nat) (hn : n < 18446744073709551616) : many n ≤ 8 := by
  have := Lib.bitLen_le n 64 (by omega) (by omega)
  unfold many; omega
theorem many_div (n : Nat) : ∀ i, n < 18446744073709551616 → many (n / 256 ^ i) = many n - i
  | 0, _ => by simp
  | i + 1, hn => by
    have ih := many_div n i hn
    have e : n / 256 ^ (i + 1) = n / 256 ^ i / 256 := by rw [Nat.pow_succ, Nat.div_div_eq_div_mul]
    have hl : n / 256 ^ i ≤ n := Nat.div_le_self _ _
    by_cases h : n / 256 ^ i = 0
    · rw [h, many_zero] at ih; rw [e, h, Nat.zero_div, many_zero]; omega
    · have := many_step h (by omega)
      rw [e]; omega
theorem many_ne {n : Nat} (hn : n < 18446744073709551616) (h : 0 < many n) : n ≠ 0 := by
  rintro rfl; rw [many_zero] at h; omega
theorem be_next {n i : Nat} (hn : n < 18446744073709551616) (hi : i < many n) : be (n / 256 ^ i) = be (n / 256 ^ (i + 1)) ++ [UInt8.ofNat (n / 256 ^ i % 256)] := by
  have h := many_div n i hn
  have hl : n / 256 ^ i ≤ n := Nat.div_le_self _ _
  rw [be_pos (many_ne (by omega) (by omega)), Nat.pow_succ, Nat.div_div_eq_div_mul]
theorem be_done {n : Nat} (hn : n < 18446744073709551616) : be (n / 256 ^ many n) = [] := by
  have h := many_div n (many n) hn
  have hl : n / 256 ^ many n ≤ n := Nat.div_le_self _ _
  have : n / 256 ^ many n = 0 := by
    apply Decidable.byContradiction
    intro h0
    have := many_step h0 (by omega)
    omega
  rw [this, be_zero]
theorem be_byte (n j : Nat) : (n : Int) / 2 ^ (8 * j) % 256 = ((UInt8.ofNat (n / 256 ^ j % 256)).toNat : Int) := by
  have p : (2 : Nat) ^ (8 * j) = 256 ^ j := by rw [Nat.pow_mul]
  have q : (2 : Int) ^ (8 * j) = ((256 ^ j : Nat) : Int) := by rw [← p]; simp
  rw [q, UInt8.toNat_ofNat']
  omega
/-- A number as the wire has it. -/
def numB (n : Nat) : List UInt8 := UInt8.ofNat (many n) :: be n
theorem numB_length (n : Nat) (hn : n < 18446744073709551616) : (numB n).length = many n + 1 := by simp [numB, be_length n hn]
set_option maxHeartbeats 4000000 in
set_option maxRecDepth 100000 in
theorem wire_form (n : Nat) (hn : n ≤ 4611686018427387903) (w : World) :
    Calls Tryz.prog 93 #[.int .i64 (n : Int)] w fun e w' => (∃ v', e = .returned v' ∧ w'.ownsRow w.heap.size 5 1 v' (numB n).length (byCells (numB n))) ∧ Below w.heap.size w w' := by
  have hm8 := many_le n (by omega)
  obtain ⟨m, hm⟩ : ∃ m, many n = m := ⟨_, rfl⟩
  rw [hm] at hm8
  have hbl : (Lib.bitLen n : Int) ≤ 64 := by have := Lib.bitLen_le n 64 (by omega) (by omega); omega
  have HM : Hid (((Lib.bitLen n : Int) + 7) / 8 = (m : Int)) := Lib.hid (by unfold many at hm; omega)
  have HMM := Lib.hid hm
  clear hm
  obtain ⟨i0, hi, hz0, hz1, hz2⟩ := info_parts infoB
  go_enter Tryz.func93, Tryz.ntmps93
  go_wp2_with (go_at_call 103; refine (Any.bits_Len64 Tryz.lays129 _ _ (by omega) (by omega)).mono ?_; rintro e w' ⟨rfl, rfl⟩)
  rw [HM.out]
  have hown0 := World.ownsRow_lit (base := w'.heap.size) (e := 5) (size := 1) w' #[.int .u8 (m : Int)] 1 (Nat.le_refl _) (by simp [maxLen]) (by simp)
  go_loopw [4, 5] (fun v i wr => ∃ k : Nat, k ≤ m ∧ i = .int .i64 k ∧ wr.ownsRow w'.heap.size 5 1 v (1 + (m - k)) (byCells (UInt8.ofNat m :: be (n / 256 ^ k))) ∧ Below w'.heap.size w' wr) (fun _ i _ => (intOf i).toNat)
  case atStart =>
    refine ⟨m, Nat.le_refl _, rfl, ?_, (Below.refl _ _).alloc (Nat.le_refl _) _⟩
    have := be_done (n := n) (by omega)
    rw [HMM.out] at this
    rw [this]
    have e : byCells [UInt8.ofNat m] = [.int .u8 (m : Int)] := by simp [byCells]; omega
    rw [e]; simpa using hown0
  case round =>
    obtain ⟨k, hk, rfl, hown, hb⟩ := hrel
    by_cases hk0 : 0 < k
    · obtain ⟨j, rfl⟩ : ∃ j, k = j + 1 := ⟨k - 1, by omega⟩
      have hsz := hb.size
      have hbase := own_base' hown
      go_wp2_with (refine wpList_append_own _ rfl (.tmp 19) (.tmp 26) 34 rfl w'.heap.size 5 i0 (.int .u8 0) 1 1 Tryz.underlying34 hi hz0 hz1 hz2 rfl (by decide) _ _ _ rfl (hown.alloc _) ⟨wr.heap.size, 0, none⟩ 1 1 [_] rfl rfl (cell_one_new _ _ _) (by simp [Value.oneCell']) ?_ ?_ ?_ ?_; (simp [maxLen]; omega); (simp; omega); (simp; omega); intro v' w1 hown' hg _; clear hown)
      have e1 : 1 + (m - (j + 1)) + 1 = 1 + (m - j) := by omega
      have e2 : byCells (UInt8.ofNat m :: be (n / 256 ^ (j + 1))) ++ [Value.int IntKind.u8 ((n : Int) / 2 ^ (8 * j) % 256)] = byCells (UInt8.ofNat m :: be (n / 256 ^ j)) := by
        rw [be_next (n := n) (i := j) (by omega) (by rw [HMM.out]; omega)]
        have e3 : (n : Int) / 2 ^ (8 * j) % 256 = ((UInt8.ofNat (n / 256 ^ j % 256)).toNat : Int) := by
          exact be_byte n j
        rw [e3]; simp [byCells]
      rw [e1, e2] at hown'
      refine ⟨⟨j, by omega, rfl, hown', (hb.alloc hsz _).grown hg (by simp; omega) (fun k e => hbase k e)⟩, by simp [intOf]⟩
    · obtain rfl : k = 0 := by omega
      go_wp2
      go_ret
      have e : 1 + (m - 0) = (numB n).length := by rw [numB_length n (by omega), HMM.out]; omega
      rw [e] at hown
      refine ⟨⟨_, rfl, ?_⟩, hb⟩
      simpa [numB, HMM.out] using hown
end Go.Proofs.YtfdnobhedbglgaaGreatDoor
