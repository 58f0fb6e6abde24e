import Derived.Test.YtfdnobhedbglgaaGreatDoorBase
import Derived.Test.YtfdnobhedbglgaaGreatDoorProg
import Derived.IntWalk
namespace Go.Proofs.YtfdnobhedbglgaaGreatDoor
open Go Go.RowKit Go.Shelf
def errOf (b : Bool) : Int := if b then 0 else 2
def okSp (x : Sp) : Bool := decide (1 ≤ x.n) && decide (x.n ≤ 200) && decide (1 ≤ x.f) && decide (x.f ≤ x.t) && decide (x.t ≤ 2147483647)
def okNext (p x : Sp) : Bool := decide (p.n ≤ x.n) && (decide (p.n ≠ x.n) || decide (p.t + 1 < x.f))
def okAt (xs : List Sp) (i : Nat) : Bool := okSp (xs.getD i zSp) && (decide (i = 0) || okNext (xs.getD (i - 1) zSp) (xs.getD i zSp))
def pastOk (xs : List Sp) : Bool := decide (xs.length ≤ 4000) && (List.range xs.length).all (okAt xs)
theorem pastOk_bad {xs : List Sp} {k : Nat} (hk : k < xs.length) (h : okAt xs k = false) : errOf (pastOk xs) = 2 := by
  have : (List.range xs.length).all (okAt xs) = false := List.all_eq_false.2 ⟨k, List.mem_range.2 hk, by simp [h]⟩
  simp [errOf, pastOk, this]
theorem pastOk_good {xs : List Sp} (h4 : xs.length ≤ 4000) (h : ∀ j, j < xs.length → okAt xs j = true) : errOf (pastOk xs) = 0 := by
  have : (List.range xs.length).all (okAt xs) = true := List.all_eq_true.2 fun j hj => h j (List.mem_range.1 hj)
  simp [errOf, pastOk, this, h4]
set_option maxHeartbeats 2000000 in
set_option maxRecDepth 100000 in
theorem past_Check (A : Option Addr) (xs : List Sp) (c : Nat) (w : World) (hx : SpAt w A xs) (hn : xs.length ≤ 4611686018427387904) :
    Calls Tryz.prog 79 #[.slice A xs.length c] w fun e w' => e = .returned (.int .i64 (errOf (pastOk xs))) ∧ Below w.heap.size w w' := by
  by_cases h4 : 4000 < xs.length
  · go_enter Tryz.func79, Tryz.ntmps79
    go_wp2
    go_ret
    exact ⟨ret_int (by simp [errOf, pastOk, Nat.not_le.2 h4]), Below.refl _ _⟩
  · go_enter Tryz.func79, Tryz.ntmps79
    go_wp2
    go_loopw [3, 10] (fun _ i wr => ∃ k : Nat, k ≤ xs.length ∧ i = .int .i64 k ∧ (∀ j, j < k → okAt xs j = true) ∧ Below w.heap.size w wr) (fun _ i _ => xs.length - (intOf i).toNat)
    case atStart => exact ⟨0, Nat.zero_le _, rfl, by omega, Below.refl _ _⟩
    case round =>
      obtain ⟨k, hk, rfl, hok, hb⟩ := hrel
      by_cases hlt : k < xs.length
      · obtain ⟨b, o, rfl, hc⟩ := hx (by omega)
        have hbl := cell_lt (hc k hlt).1
        obtain ⟨h1, h2, h3⟩ := hc k hlt
        replace h1 := ((bcell hb).1 _ _ hbl).trans h1
        replace h2 := ((bcell hb).1 _ _ hbl).trans h2
        replace h3 := ((bcell hb).1 _ _ hbl).trans h3
        obtain ⟨x, hx⟩ : ∃ x, xs.getD k zSp = x := ⟨_, rfl⟩
        rw [hx] at h1 h2 h3
        have HX := Lib.hid hx
        have HC := Lib.hid hc
        clear hx hc
        have hsz := hb.size
        have hbb := fun (o : Obj) => hb.alloc hsz o
        go_wp2
        all_goals try (go_ret; exact ⟨ret_int (pastOk_bad hlt (by simp only [okAt, okSp, HX.out]; simp; omega)).symm, hbb _⟩)
        have hv : okSp x = true := by simp only [okSp]; simp; omega
        by_cases hk0 : k = 0
        · subst hk0
          go_quiet (fail)
          go_wp2
          go_roundw
          case rel => exact ⟨1, by omega, by simp, fun j hj => by obtain rfl : j = 0 := by omega
                                                                  simp only [okAt, HX.out, hv]; rfl, below_drewN (hbb _) _⟩
          case measure => simp [intOf]; omega
        · have hkp : 0 < (k : Int) := by omega
          have hkd : 0 < k := by omega
          obtain ⟨p1, p2, p3⟩ := HC.out (k - 1) (by omega)
          replace p1 := fun ob : Obj => ((bcell (hbb ob)).1 _ _ hbl).trans p1
          replace p3 := fun ob : Obj => ((bcell (hbb ob)).1 _ _ hbl).trans p3
          have hpo := hok (k - 1) (by omega)
          obtain ⟨p, hp⟩ : ∃ p, xs.getD (k - 1) zSp = p := ⟨_, rfl⟩
          rw [hp] at p1 p3
          have hpt : p.t ≤ 2147483647 ∧ 1 ≤ p.t := by simp only [okAt, okSp, hp] at hpo; simp at hpo; omega
          have HP := Lib.hid hp
          obtain ⟨hpt1, hpt2⟩ := hpt
          clear hp hpo p2
          have hbad : okNext p x = false → okAt xs k = false := fun h => by simp only [okAt, HX.out, HP.out, h]; simp [hk0]
          have hgood : okNext p x = true → ∀ j, j < k + 1 → okAt xs j = true := fun h j hj => by
            by_cases e : j = k
            · subst e; simp only [okAt, HX.out, HP.out, h, hv]; simp
            · exact hok j (by omega)
          have i1 : (1 : Int) ≤ (k : Int) := by omega
          have i2 : (k : Int) - 1 < (xs.length : Int) := by omega
          have w1 : IntKind.i64.wrap ((k : Int) - 1) = (k : Int) - 1 := IntWalk.i64_in _ (by omega)
          have w2 : IntKind.i64.wrap (p.t + 1) = p.t + 1 := IntWalk.i64_in _ (by omega)
          have w3 : ((k : Int) - 1).toNat = k - 1 := by omega
          by_cases c1 : x.n < p.n
          · have d1 : decide (x.n < p.n) = true := by simpa using c1
            go_quiet (fail)
            clear w1 w2 w3
            go_wp2
            go_ret
            exact ⟨ret_int (pastOk_bad hlt (hbad (by simp [okNext]; omega))).symm, below_drewN (hbb _) _⟩
          · have d1 : decide (x.n < p.n) = false := by simpa using c1
            by_cases c2 : x.n = p.n
            · have d2 : (x.n == p.n) = true := by simpa using c2
              by_cases c3 : x.f ≤ p.t + 1
              · have d3 : decide (x.f ≤ p.t + 1) = true := by simpa using c3
                have HB := hbad (by simp [okNext]; omega)
                clear hbad hgood c2 hok
                go_quiet (fail)
                clear w1 w2 w3
                go_wp2
                go_ret
                exact ⟨ret_int (pastOk_bad hlt HB).symm, below_drewN (hbb _) _⟩
              · have d3 : decide (x.f ≤ p.t + 1) = false := by simpa using c3
                have HG := Lib.hid (hgood (by simp [okNext]; omega))
                clear hbad hgood c2 hok
                go_quiet (fail)
                clear w1 w2 w3
                go_wp2
                go_roundw
                case rel => exact ⟨k + 1, by omega, by simp, HG.out, below_drewN (hbb _) _⟩
                case measure => simp [intOf]; omega
            · have d2 : (x.n == p.n) = false := by simpa using c2
              have HG := Lib.hid (hgood (by simp [okNext]; omega))
              clear hbad hgood hok
              go_quiet (fail)
              clear w1 w2 w3
              go_wp2
              go_roundw
              case rel => exact ⟨k + 1, by omega, by simp, HG.out, below_drewN (hbb _) _⟩
              case measure => simp [intOf]; omega
      · go_wp2
        go_ret
        exact ⟨ret_int (pastOk_good (by omega) (fun j hj => hok j (by omega))).symm, hb⟩
end Go.Proofs.YtfdnobhedbglgaaGreatDoor
