import Derived.Test.YtfdnobhedbglgaaGreatDoorRangeState
import Derived.Test.YtfdnobhedbglgaaGreatDoorBase
import Derived.RangeFuncBound
import Derived.RangeFuncCalls
import Derived.Shelf.RegionOpen
import Derived.OwnWalkIn
import Derived.TacticsInMore
import Derived.LoopNIn
import Derived.LoopIn
import Derived.Lib.Index
import Derived.Lib.PathFns
import Derived.Lib.IndexBytes
import Derived.Test.YtfdnobhedbglgaaGreatDoorProg
namespace Go.Proofs.YtfdnobhedbglgaaGreatDoor
open Go Go.RowKit Go.Shelf
attribute [local go_sem] Oper.semAt_some
set_option maxHeartbeats 1000000 in
set_option maxRecDepth 100000 in
theorem sl_IndexByte (s : ByteArray) (c : Int) (w : World) :
    Calls Tryz.prog 130 #[.string s, .int .u8 c] w fun e w' => e = .returned (.int .i64 (Lib.indexByte s.data.toList c.toNat.toUInt8)) ∧ w = w' := by
  go_enter Tryz.func130, Tryz.ntmps130
  go_wp2
  rw [run_callFunc_extern Tryz.func133 (by kernel_rfl) (by kernel_rfl) (by kernel_rfl) (e := Extern.BytealgIndexByte.indexByte) (by kernel_rfl), Lib.run_indexByteString]
  simp only [Result.andThen]
  rw [Oper.upon_value]
  go_wp2
  go_ret
  exact ⟨rfl, rfl⟩
set_option maxHeartbeats 1000000 in
set_option maxRecDepth 100000 in
theorem sl_Index (s : ByteArray) (w : World) :
    Calls Tryz.prog 122 #[.string s, .string ⟨#[47]⟩] w fun e w' => e = .returned (.int .i64 (Lib.indexByte s.data.toList 47)) ∧ w = w' := by
  go_enter Tryz.func122, Tryz.ntmps122
  go_wp2_with (go_at_call 130; refine (sl_IndexByte _ _ _).mono ?_; rintro e w' ⟨rfl, rfl⟩)
  · have h : ([47] == s.toList) = true := by assumption
    go_ret
    refine ⟨?_, rfl⟩
    rw [Lib.toList_data, beq_iff_eq] at h
    rw [← h]; rfl
  · go_ret
    exact ⟨rfl, rfl⟩
set_option maxHeartbeats 1000000 in
theorem strings_Index1 (s : ByteArray) (w : World) :
    Calls Tryz.prog 111 #[.string s, .string ⟨#[47]⟩] w fun e w' => e = .returned (.int .i64 (Lib.indexByte s.data.toList 47)) ∧ w = w' := by
  go_enter Tryz.func111, Tryz.ntmps111
  go_wp2_with (go_at_call 122; refine (sl_Index _ _).mono ?_; rintro e w' ⟨rfl, rfl⟩)
  go_ret
  exact ⟨rfl, rfl⟩
set_option maxHeartbeats 1000000 in
/-- strings.splitSeq, strings.SplitSeq: three boxes, and a function value that has captured them. -/
theorem splitSeq_any (s : ByteArray) (w : World) :
    Calls Tryz.prog 104 #[.string s, .string ⟨#[47]⟩, .int .i64 0] w fun e w' => e = .returned (.func (.func 109) #[] #[.pointer (some ⟨w.heap.size + 1, 0, none⟩), .pointer (some ⟨w.heap.size, 0, none⟩), .pointer (some ⟨w.heap.size + 2, 0, none⟩)]) ∧
      ((w.alloc (.cells #[.string s] 9)).alloc (.cells #[.string ⟨#[47]⟩] 9)).alloc (.cells #[.int .i64 0] 3) = w' := by
  have hmf : ∀ (fn : Fn) (first cap : Array Value) (w : World), (Instr.makeFunc fn first cap).run Tryz.prog w = .ok (.func fn first cap) w := fun _ _ _ _ => rfl
  go_enter Tryz.func104, Tryz.ntmps104
  go_wp2
  go_ret
  exact ⟨rfl, rfl⟩
set_option maxHeartbeats 1000000 in
theorem SplitSeq_any (s : ByteArray) (w : World) :
    Calls Tryz.prog 95 #[.string s, .string ⟨#[47]⟩] w fun e w' => e = .returned (.func (.func 109) #[] #[.pointer (some ⟨w.heap.size + 1, 0, none⟩), .pointer (some ⟨w.heap.size, 0, none⟩), .pointer (some ⟨w.heap.size + 2, 0, none⟩)]) ∧
      ((w.alloc (.cells #[.string s] 9)).alloc (.cells #[.string ⟨#[47]⟩] 9)).alloc (.cells #[.int .i64 0] 3) = w' := by
  go_enter Tryz.func95, Tryz.ntmps95
  go_wp2_with (go_at_call 104; refine (splitSeq_any _ _).mono ?_; rintro e w' ⟨rfl, rfl⟩)
  go_ret
  exact ⟨rfl, rfl⟩
/-! the parts of a text -/
def splitSlash : List UInt8 → List (List UInt8)
  | [] => [[]]
  | c :: l => if c = 47 then [] :: splitSlash l else match splitSlash l with
    | [] => [[c]]
    | p :: ps => (c :: p) :: ps
theorem splitSlash_ne (l : List UInt8) : splitSlash l ≠ [] := by
  cases l with
  | nil => simp [splitSlash]
  | cons c l => unfold splitSlash; split; · simp
                split <;> simp
theorem split_none : ∀ (l : List UInt8), Lib.indexByte l 47 < 0 → splitSlash l = [l]
  | [], _ => rfl
  | c :: l, h => by
    unfold Lib.indexByte at h
    split at h
    · omega
    · rename_i hc
      have hc' : c ≠ 47 := by simpa using hc
      split at h
      · rename_i h1
        have : Lib.indexByte l 47 = -1 := by simpa using h1
        rw [splitSlash, if_neg hc', split_none l (by omega)]
      · rename_i h1
        have h2 : Lib.indexByte l 47 < 0 := by have : Lib.indexByte l 47 ≠ -1 := by simpa using h1
                                               omega
        rw [splitSlash, if_neg hc', split_none l h2]
theorem indexByte_ge : ∀ (l : List UInt8), -1 ≤ Lib.indexByte l 47
  | [] => by simp [Lib.indexByte]
  | c :: l => by
    have := indexByte_ge l
    unfold Lib.indexByte
    split
    · omega
    · split <;> omega
theorem indexByte_lt : ∀ (l : List UInt8), Lib.indexByte l 47 < l.length ∨ l = []
  | [] => .inr rfl
  | c :: l => by
    left
    have := indexByte_lt l
    unfold Lib.indexByte
    split
    · have : (c :: l).length = l.length + 1 := rfl; omega
    · split
      · have : (c :: l).length = l.length + 1 := rfl; omega
      · rcases this with h | rfl
        · have : (c :: l).length = l.length + 1 := rfl; omega
        · rename_i h1; exact absurd (by simp [Lib.indexByte]) h1
theorem split_some : ∀ (l : List UInt8), 0 ≤ Lib.indexByte l 47 → splitSlash l = l.take (Lib.indexByte l 47).toNat :: splitSlash (l.drop ((Lib.indexByte l 47).toNat + 1))
  | [], h => by simp [Lib.indexByte] at h
  | c :: l, h => by
    unfold Lib.indexByte at h ⊢
    split at h
    · rename_i hc
      have hc' : c = 47 := by simpa using hc
      simp [hc', splitSlash]
    · rename_i hc
      have hc' : c ≠ 47 := by simpa using hc
      split at h
      · omega
      · rename_i h1
        have h1' : Lib.indexByte l 47 ≠ -1 := by simpa using h1
        have h2 := indexByte_ge l
        have h0 : 0 ≤ Lib.indexByte l 47 := by omega
        have ih := split_some l h0
        have ht : (Lib.indexByte l 47 + 1).toNat = (Lib.indexByte l 47).toNat + 1 := by omega
        rw [if_neg (by simpa using hc'), if_neg h1, ht, splitSlash, if_neg hc', ih]
        simp
/-! the closure of splitSeq: it keeps what is left in a box of its own -/
/-- What a round must keep: these blocks. -/
def KeepL (L : List Nat) (W W' : World) : Prop := W.heap.size ≤ W'.heap.size ∧ ∀ b ∈ L, W'.heap[b]? = W.heap[b]?
theorem KeepL.trans {L : List Nat} {A B C : World} (h : KeepL L A B) (k : KeepL L B C) : KeepL L A C := ⟨Nat.le_trans h.1 k.1, fun b hb => (k.2 b hb).trans (h.2 b hb)⟩
abbrev BS (M : Nat) := { x : ByteArray // x.size ≤ M }
def strSize : Option Value → Nat
  | some (.string s) => s.size
  | _ => 0
theorem ext_take (s : ByteArray) (k : Nat) : (s.extract 0 k).data.toList = s.data.toList.take k := Lib.Pa.extract_upto_list s k
set_option maxRecDepth 100000 in
set_option maxHeartbeats 4000000 in
theorem split_closure (n : Nat) (hn : 1 ≤ n) (M Bp Bs Bv : Nat) (hps : Bp ≠ Bs) (hvs : Bv ≠ Bs) (s : ByteArray) (hM : s.size ≤ M) (hM2 : M ≤ 4611686018427387904) (W : World)
    (hp : Boxed W Bp 9 (.string ⟨#[47]⟩)) (hs : Boxed W Bs 9 (.string s)) (hv : Boxed W Bv 3 (.int .i64 0)) :
    RS.SeqState Fence.wide n Tryz.prog 109 #[.pointer (some ⟨Bp, 0, none⟩), .pointer (some ⟨Bs, 0, none⟩), .pointer (some ⟨Bv, 0, none⟩)] (fun x : BS M => #[.string x.1]) (fun r => r = Bs) (KeepL [Bp, Bs, Bv])
      (fun xs => xs.map (fun x => x.1.data.toList) = splitSlash s.data.toList) (fun pre => pre.map (fun x => x.1.data.toList) <+: splitSlash s.data.toList) (splitSlash s.data.toList).length W := by
  intro l J Jx hJ hJx hY h0
  refine callsIn_of_wp Tryz.func109 rfl trivial ?_ rfl
  simp only [Tryz.ntmps109, List.size_toArray, List.length_cons, List.length_nil, Nat.reduceAdd, Nat.reduceSub, Array.replicate_succ, Array.replicate_zero, List.push_toArray, List.append_toArray, List.nil_append, List.cons_append]
  have hp1 := hp.cell; have hs1 := hs.cell; have hv1 := hv.cell
  gi_wp2
  gi_loopw [7, 8] (fun _ _ wr => ∃ (pre : List (BS M)) (r : ByteArray), J pre wr ∧ Boxed wr Bp 9 (.string ⟨#[47]⟩) ∧ Boxed wr Bs 9 (.string r) ∧ Boxed wr Bv 3 (.int .i64 0) ∧ pre.map (fun x => x.1.data.toList) ++ splitSlash r.data.toList = splitSlash s.data.toList ∧ r.size ≤ M)
    (fun _ _ wr => strSize (wr.cell? ⟨Bs, 0, none⟩))
  case atStart => exact ⟨[], s, h0, hp, hs, hv, rfl, hM⟩
  case round =>
    obtain ⟨pre, r, hJp, hp, hs, hv, heq, hrM⟩ := hrel
    have hp1 := hp.cell; have hs1 := hs.cell; have hv1 := hv.cell
    have hlen : pre.length < (splitSlash s.data.toList).length := by
      rw [← heq]
      have := List.length_pos_iff.2 (splitSlash_ne r.data.toList)
      simp; omega
    have hge := indexByte_ge r.data.toList
    have hlt := indexByte_lt r.data.toList
    have hrs : r.data.toList.length = r.size := by simp
    by_cases hi : Lib.indexByte r.data.toList 47 < 0
    · obtain ⟨fn, tmps, assign, body, hy, hR⟩ := hY pre ⟨r, hrM⟩ wr hJp hlen
      dsimp only at hy
      have E := Lib.hid (split_none _ hi)
      clear hlt
      gi_wp2_with (refine ⟨trivial, ?_⟩; gi_at_call 111; refine (callsIn_wide.2 (strings_Index1 r _)).mono ?_; rintro e w' ⟨rfl, rfl⟩)
      refine hR.mono ?_
      rintro e W3 (⟨rfl, hJ3, hk3⟩ | ⟨rfl, hJx3⟩)
      · gi_wp2
        go_end0
        exact ⟨⟨_, rfl⟩, .inl ⟨_, by rw [List.map_append, List.map_cons, List.map_nil, ← heq, E.out], hJ3⟩⟩
      · gi_wp2
        go_end0
        exact ⟨⟨_, rfl⟩, .inr ⟨_, by rw [List.map_append, List.map_cons, List.map_nil, ← heq, E.out]; exact List.prefix_rfl, hJx3⟩⟩
    · have hlt2 : Lib.indexByte r.data.toList 47 < r.size := by
        rcases hlt with h | h
        · omega
        · rw [h] at hi; simp [Lib.indexByte] at hi
      clear hlt
      have E := Lib.hid (split_some _ (Int.not_lt.1 hi))
      obtain ⟨i, hie⟩ : ∃ i : Nat, Lib.indexByte r.data.toList 47 = i := ⟨(Lib.indexByte r.data.toList 47).toNat, by omega⟩
      have HI := Lib.hid hie
      rw [hie] at hi hlt2
      have E2 : Hid (splitSlash r.data.toList = r.data.toList.take i :: splitSlash (r.data.toList.drop (i + 1))) := by have := E.out; rw [hie, Int.toNat_natCast] at this; exact Lib.hid this
      have hsz : (r.extract 0 i).size ≤ M := by rw [ByteArray.size_extract]; omega
      obtain ⟨fn, tmps, assign, body, hy, hR⟩ := hY pre ⟨r.extract 0 i, hsz⟩ wr hJp hlen
      dsimp only at hy
      clear hie
      gi_wp2_with (refine ⟨trivial, ?_⟩; gi_at_call 111; refine (callsIn_wide.2 (strings_Index1 r _)).mono ?_; rw [HI.out]; rintro e w' ⟨rfl, rfl⟩)
      refine hR.mono ?_
      rintro e W3 (⟨rfl, hJ3, hk3⟩ | ⟨rfl, hJx3⟩)
      · have hp3 : Boxed W3 Bp 9 (.string ⟨#[47]⟩) := (hk3.2 Bp (by simp)).trans hp
        have hs3 : Boxed W3 Bs 9 (.string r) := (hk3.2 Bs (by simp)).trans hs
        have hv3 : Boxed W3 Bv 3 (.int .i64 0) := (hk3.2 Bv (by simp)).trans hv
        have hp4 := hp3.cell; have hs4 := hs3.cell; have hv4 := hv3.cell; have hf4 := hs3.frozen
        gi_wp2
        go_roundw
        case rel =>
          refine ⟨pre ++ [⟨r.extract 0 i, hsz⟩], r.extract (i + 1) r.size, hJ _ _ _ _ hJ3 (grownBy_setCell' _ _ _) (fun k e => by cases e; exact .inl rfl), hp3.other hps _, hs3.set _, hv3.other hvs _, ?_, ?_⟩
          · rw [List.map_append, List.map_cons, List.map_nil, ext_take, Lib.extract_to_end, ← heq, E2.out]; simp
          · rw [ByteArray.size_extract]; omega
        case measure =>
          rw [(hs3.set _).cell, hs1]
          simp only [strSize, ByteArray.size_extract]; omega
      · gi_wp2
        refine bodyPost_ret (results_none rfl _ _ _) rfl ?_
        exact ⟨⟨_, rfl⟩, .inr ⟨_, by rw [List.map_append, List.map_cons, List.map_nil, ext_take, ← heq, E2.out]; exact (List.prefix_append_right_inj _).2 ⟨_, rfl⟩, hJx3⟩⟩
end Go.Proofs.YtfdnobhedbglgaaGreatDoor
