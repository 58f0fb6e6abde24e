import Derived.Test.YtfdnobhedbglgaaGreatDoorLaw5
import Derived.Test.YtfdnobhedbglgaaGreatDoorLaw6
import Derived.Deep.DeepCutAuto
import Derived.StillTailTactics
namespace Go.Proofs.YtfdnobhedbglgaaGreatDoor
open Go Go.RowKit Go.Shelf
set_option maxHeartbeats 32000000 in
set_option maxRecDepth 100000 in
theorem law_room (b0 n0 : Int) (l : List Ac) (A : Option Addr) (c : Nat) (w : World) (h : ActsAt w l A) (hn : l.length ≤ 10000000000000) : Calls Tryz.prog 4 #[.int .i64 b0, .int .i64 n0, .slice A l.length c] w fun e w' => e = .returned (.bool true) ∧ Below w.heap.size w w' := by
  have hpb := pick_bd b0 3001 (by decide)
  have hpn := pick_bd n0 13 (by decide)
  obtain ⟨B, hB⟩ : ∃ B, pick b0 3001 = B := ⟨_, rfl⟩
  obtain ⟨N, hN⟩ : ∃ N, pick n0 13 = N := ⟨_, rfl⟩
  rw [hB] at hpb; rw [hN] at hpn
  obtain ⟨hB0, hB1⟩ := hpb
  obtain ⟨hN0, hN1⟩ := hpn
  have HB := Lib.hid hB; have HN := Lib.hid hN
  clear hB hN
  go_enter Tryz.func4, Tryz.ntmps4
  go_wp2_with fail
  refine (law_known w).mono ?_
  rintro e w1 ⟨rfl, hb1⟩
  have h1 := h.below hb1
  go_wp2_with fail
  refine (kit_Pick b0 3001 w1 (by decide) (by decide)).mono ?_
  rintro e w2 ⟨rfl, hw⟩
  obtain rfl := hw.symm
  clear hw
  rw [HB.out]
  go_wp2_with fail
  refine (kit_Pick n0 13 w1 (by decide) (by decide)).mono ?_
  rintro e w2 ⟨rfl, hw⟩
  obtain rfl := hw.symm
  clear hw
  rw [HN.out]
  go_wp2_with fail
  refine (spool_New_ok B N _ (by omega) (by omega) (by omega) (by omega)).mono ?_
  rintro e w2 ⟨rfl, hb2, hS2⟩
  have h2 := h1.below hb2
  have hB2 := below_trans hb1 hb2
  go_wp2_with fail
  refine (law_long l A c w2 h2 hn).mono ?_
  rintro e w3 ⟨rfl, hb3⟩
  have hB3 := below_trans hB2 hb3
  have hS3 := hS2.keep hb3
  have hgl := hb1.size
  cases hlg : longL l with
  | true =>
    clear hlg
    go_wp2_with fail
    go_ret
    exact ⟨rfl, hB3⟩
  | false =>
    have HLG := Lib.hid hlg
    clear hlg
    have hI0 : RoomInv w w1.heap.size B N (.slice none 0 0) w3 [] [] 0 0 :=
      { sp := hS3, row := World.ownsRow_nil _ _ _ _, same := rfl, sum := rfl, once := List.Pairwise.nil, u0 := by omega, u1 := by omega, m0 := by omega, m1 := by omega, len := by simpa using hN0, at_ := fun r hr => by simp at hr, low := hB3, gl := hgl }
    clear hS2 hS3 h1 h2 hb1 hb2 hb3 hB2 hB3 HB HN
    go_wp2_with fail
    go_loopw [10, 11] (fun want i wr => ∃ k : Nat, k ≤ l.length ∧ i = .int .i64 k ∧ ∃ L R used most, RoomInv w w1.heap.size B N want wr L R used most) (fun _ i _ => l.length - (intOf i).toNat)
    case atStart => exact ⟨0, Nat.zero_le _, rfl, [], [], 0, 0, hI0⟩
    case round =>
      clear hI0
      obtain ⟨k, hk, rfl, L, R, used, most, hI⟩ := hrel
      by_cases hlt : k < l.length
      · obtain ⟨b, o, rfl, hc, hv⟩ := (h.below hI.low) k _ (List.getElem?_eq_getElem hlt)
        obtain ⟨-, -, -, -, hvw⟩ := h k _ (List.getElem?_eq_getElem hlt)
        have hs : longEv l[k].e = false := by
          have := HLG.out
          unfold longL at this
          rw [Bool.or_eq_false_iff] at this
          have h2 := List.any_eq_false.1 this.1 l[k] (List.getElem_mem _)
          simpa using h2
        have hs := longEv_short hs
        generalize l[k] = a at *
        have x0 := hc 0 _ rfl; have x1 := hc 1 _ rfl; have x2 := hc 2 _ rfl; have x3 := hc 3 _ rfl; have x4 := hc 4 _ rfl; have x5 := hc 5 _ rfl; have x6 := hc 6 _ rfl; have x7 := hc 7 _ rfl
        rw [Nat.add_zero] at x0
        have q1 : (0 : Int) ≤ (k : Int) := by omega
        have q2 : (k : Int) < (l.length : Int) := by omega
        have H := Lib.hid h
        clear hc h
        have hbn := below_alloc (Below.refl _ wr) (.cells #[.int .i64 a.e.node, .int .i64 a.e.seq, .string a.e.path, .int .i64 a.e.kind, .int .i64 a.e.mode, .slice a.A a.e.bytes.length a.c, .slice a.B a.e.past.length a.d] 39)
        have hnew := World.alloc_heap_new wr (.cells #[.int .i64 a.e.node, .int .i64 a.e.seq, .string a.e.path, .int .i64 a.e.kind, .int .i64 a.e.mode, .slice a.A a.e.bytes.length a.c, .slice a.B a.e.past.length a.d] 39)
        have HNW := Lib.hid (And.intro hbn hnew)
        clear hbn hnew
        go_upto_region 13 with fail
        obtain ⟨hbn, hnew⟩ := HNW.out
        clear HNW
        have x0' := ((bcell hbn).1 _ _ (cell_lt x0)).trans x0
        have hI2 := hI.keep hbn
        obtain ⟨bx, hbx⟩ : ∃ bx, wr.heap.size = bx := ⟨_, rfl⟩
        rw [hbx] at hnew ⊢
        clear x0 x1 x2 x3 x4 x5 x6 x7 hv
        generalize (wr.alloc _) = W2 at *
        have HNW := Lib.hid hnew
        have y0 := blk_cell hnew 0; have y1 := blk_cell hnew 1; have y2 := blk_cell hnew 2; have y3 := blk_cell hnew 3; have y4 := blk_cell hnew 4; have y5 := blk_cell hnew 5; have y6 := blk_cell hnew 6
        simp at y0 y1 y2 y3 y4 y5 y6
        have HI2 := Lib.hid hI2
        clear hI2 hI hnew hbn hbx
        go_upto_if 51 with fail
        go_cut [10] (fun want wc => ∃ L R used most, RoomInv w w1.heap.size B N want wc L R used most)
        case first =>
          cases hdr : a.drop with
          | true =>
            clear y2 y3 y4 y5 y6
            go_wp2_with fail
            have hI := HI2.out
            refine (spool_Drop hI.sp a.e.node a.e.seq hI.u0 (by have := hI.u1; omega) (by have := hI.len; have := hI.llen; omega)).mono ?_
            rintro x w4 ⟨⟨hb4, hf4⟩, hx⟩
            have hb4' : Below w.heap.size W2 w4 := hb4.mono hI.gl
            have hlow4 := hI.low.trans hb4'
            have hn4 := blk_frame hI.sp HNW.out (by decide) (by decide) hf4
            rcases hx with ⟨-, rfl, hS4⟩ | ⟨lk, hlk, rfl, hS4⟩
            · have hI4 := hI.stay hS4 hf4 hb4
              have HI4 := Lib.hid hI4
              clear hI hI4 hS4 hb4 hf4 hb4' hlow4 hn4 y0 y1
              go_wp2_with fail
              go_meet
              exact ⟨L, R, used, most, HI4.out⟩
            · have y0' := blk_cell hn4 0; have y1' := blk_cell hn4 1
              simp at y0' y1'
              have hrow4 := want_frame hI.sp hI.row hf4
              have HS4 := Lib.hid hS4; have HR4 := Lib.hid hrow4; have HL4 := Lib.hid hlk; have HLOW4 := Lib.hid hlow4
              have hsz4 := hlow4.size
              have hrl : R.length ≤ 100000 := by have := hI.len; omega
              clear hI hS4 hb4 hf4 hb4' hlow4 hrow4 hlk hn4 y0 y1
              go_wp2_with fail
              refine (law_without R u10 w.heap.size a.e.node a.e.seq w4 hsz4 HR4.out hrl).mono ?_
              rintro e w5 ⟨⟨v5, rfl, hrow5⟩, hb5⟩
              have hI5 := HI2.out.drop HL4.out (HS4.out.keep hb5) hrow5 (below_trans HLOW4.out hb5)
              have HI5 := Lib.hid hI5
              clear hI5 hrow5 hb5 y0' y1'
              go_wp2_with fail
              go_meet
              exact ⟨_, _, _, _, HI5.out⟩
          | false =>
            go_wp2_with fail
            have hI := HI2.out
            refine (spool_Put hI.sp a.e (a.e.val a.A a.c a.B a.d) hs (hvw.below hI.low) hI.u0 hI.u1 (by omega) (by have := hI.len; have := hI.llen; omega) (by omega)).mono ?_
            rintro x w4 hpp
            obtain ⟨rfl, ⟨hb4, hf4⟩, hp1, hp2⟩ := hpp
            have hb4' : Below w.heap.size W2 w4 := hb4.mono hI.gl
            have hlow4 := hI.low.trans hb4'
            have hn4 := blk_frame hI.sp HNW.out (by decide) (by decide) hf4
            have y0' := blk_cell hn4 0; have y1' := blk_cell hn4 1; have y2' := blk_cell hn4 2; have y3' := blk_cell hn4 3; have y4' := blk_cell hn4 4; have y5' := blk_cell hn4 5; have y6' := blk_cell hn4 6
            simp at y0' y1' y2' y3' y4' y5' y6'
            rcases put_ways (bytes := B) (entries := N) (L := L) (used := used) (e := a.e) with hr | hr | hr | hr | hr
            · obtain ⟨lk, hlk, hS4⟩ := hp2 hr
              have hrow4 := want_frame hI.sp hI.row hf4
              obtain ⟨A2, c2, rfl, -⟩ := own_row hrow4
              have hrl : R.length ≤ 12 := by have := hI.len; omega
              have hsz4 := hlow4.size
              have hbase := own_base' hrow4
              have hex : ∀ (W : World), W.heap = w4.heap → (W.alloc (.cells #[.int .i64 a.e.node, .int .i64 a.e.seq, .string a.e.path, .int .i64 a.e.kind, .int .i64 a.e.mode, .slice a.A a.e.bytes.length a.c, .slice a.B a.e.past.length a.d] 39)).ownsRow w.heap.size 39 7 (.slice A2 R.length c2) R.length (erCells R) := fun W hW => by
                refine World.ownsRow.alloc ?_ _
                unfold WantAt World.ownsRow at hrow4
                unfold World.ownsRow
                rwa [hW]
              have HO := Lib.hid hex
              have HLOW4 := Lib.hid hlow4; have HS4 := Lib.hid hS4; have HLK := Lib.hid hlk; have HR := Lib.hid hr; have HBASE := Lib.hid hbase
              obtain ⟨i0, hi, hz0, hz1, hz2⟩ := info_parts infoE
              rw [hr]
              clear hI hp1 hp2 hb4 hf4 hb4' hlow4 hn4 y0 y1 y2 y3 y4 y5 y6 hr hS4 hlk hrow4 hbase hex
              go_upto_region 19 with (at_builtin; go_must (refine wpList_append_own _ rfl (.tmp 66) (.tmp 68) 47 rfl w.heap.size 39 i0 _ 7 96 Tryz.underlying47 hi hz0 hz1 hz2 rfl (by decide) _ _ _ rfl (HO.out _ rfl) ⟨w4.heap.size, 0, none⟩ 1 1 (⟨a.e, a.A, a.c, a.B, a.d⟩ : Er).cells rfl (by simp [Er.cells]) ?_ (by simp [Er.cells, Value.oneCell']) (by simp [maxLen]; omega) (by omega) ?_ ?_); (exact new_row _ ⟨a.e, a.A, a.c, a.B, a.d⟩ _ rfl); (simp; omega); intro v' w5 hown' hg _; obtain ⟨A4, c4, rfl, -⟩ := own_row hown')
              have e1 : erCells (R ++ [(⟨a.e, a.A, a.c, a.B, a.d⟩ : Er)]) = erCells R ++ (⟨a.e, a.A, a.c, a.B, a.d⟩ : Er).cells := by simp [erCells]
              have hrow5 : WantAt w5 w.heap.size (R ++ [(⟨a.e, a.A, a.c, a.B, a.d⟩ : Er)]) (.slice A4 (R.length + 1) c4) := by
                unfold WantAt
                rw [e1, List.length_append]
                exact hown'
              have hlow5 : Below w.heap.size w w5 := (HLOW4.out.alloc hsz4 _).grown hg (by simp; omega) (fun k e => HBASE.out k e)
              have hsp5 := room_grown (HS4.out.keep (below_alloc (Below.refl _ w4) (.cells #[.int .i64 a.e.node, .int .i64 a.e.seq, .string a.e.path, .int .i64 a.e.kind, .int .i64 a.e.mode, .slice a.A a.e.bytes.length a.c, .slice a.B a.e.past.length a.d] 39))) (HO.out w4 rfl) hg
              have hI5 := HI2.out.put HLK.out HR.out hsp5 ⟨a.e, a.A, a.c, a.B, a.d⟩ rfl ⟨hs, hvw⟩ hrow5 hlow5
              have HI5 := Lib.hid hI5
              clear hI5 hsp5 hlow5 hrow5 e1 hg hown' hi hz0 hz1 hz2
              go_wp2_with fail
              go_meet
              exact ⟨_, _, _, _, HI5.out⟩
            · have hI4 := hI.stay (hp1 (by rw [hr]; decide)) hf4 hb4
              have HI4 := Lib.hid hI4
              rw [hr]
              clear hI hI4 hp1 hp2 hb4 hf4 hb4' hlow4 hn4 y0 y1 y2 y3 y4 y5 y6 hr
              go_wp2_with fail
              go_meet
              exact ⟨L, R, used, most, HI4.out⟩
            · have hI4 := hI.stay (hp1 (by rw [hr]; decide)) hf4 hb4
              have HI4 := Lib.hid hI4
              have hlg := put_long hr
              have hev : EvAt w4 a.e (a.e.val a.A a.c a.B a.d) := hvw.below hlow4
              have hsz := Ev.size_le a.e hs
              rw [hr]
              obtain ⟨S, hS⟩ : ∃ S, a.e.size = S := ⟨_, rfl⟩
              rw [hS] at hlg hsz
              have HS := Lib.hid hS
              have HEV := Lib.hid hev
              clear hI hI4 hp1 hp2 hb4 hf4 hb4' hlow4 hn4 y0 y1 y2 y3 y4 y5 y6 hr hS hev
              go_wp2_with fail
              refine (ev_Size a.e (a.e.val a.A a.c a.B a.d) w4 hs HEV.out).mono ?_
              rintro e w5 ⟨rfl, hb5⟩
              rw [HS.out]
              have HI5 := Lib.hid (HI4.out.keep hb5)
              clear hb5 y0' y1' y2' y3' y4' y5' y6'
              rcases hlg with hlg | hlg
              · go_wp2_with fail
                go_meet
                exact ⟨L, R, used, most, HI5.out⟩
              · obtain rfl := hlg
                go_wp2_with fail
                all_goals
                  go_meet
                  exact ⟨L, R, used, most, HI5.out⟩
            · have hI4 := hI.stay (hp1 (by rw [hr]; decide)) hf4 hb4
              have HI4 := Lib.hid hI4
              rw [hr]
              clear hI hI4 hp1 hp2 hb4 hf4 hb4' hlow4 hn4 y0 y1 y2 y3 y4 y5 y6 hr
              go_wp2_with fail
              go_meet
              exact ⟨L, R, used, most, HI4.out⟩
            · have hI4 := hI.stay (hp1 (by rw [hr]; decide)) hf4 hb4
              have HI4 := Lib.hid hI4
              obtain ⟨hfu, hpos⟩ := put_full (fun h0 => by have := hI.sum; rw [hI.same, h0] at this; exact this) hr hN0
              rw [hI.llen] at hpos
              have hev : EvAt w4 a.e (a.e.val a.A a.c a.B a.d) := hvw.below hlow4
              have hsz := Ev.size_le a.e hs
              rw [hr]
              obtain ⟨S, hS⟩ : ∃ S, a.e.size = S := ⟨_, rfl⟩
              rw [hS] at hfu hsz
              have HS := Lib.hid hS
              have HEV := Lib.hid hev
              clear hI hI4 hp1 hp2 hb4 hf4 hb4' hlow4 hn4 y0 y1 y2 y3 y4 y5 y6 hr hS hev
              obtain ⟨A2, c2, rfl, -⟩ := own_row HI4.out.row
              have hne : ((R.length : Int) == 0) = false := by rw [beq_eq_false_iff_ne]; omega
              go_wp2_with fail
              refine (ev_Size a.e (a.e.val a.A a.c a.B a.d) w4 hs HEV.out).mono ?_
              rintro e w5 ⟨rfl, hb5⟩
              rw [HS.out]
              have HI5 := Lib.hid (HI4.out.keep hb5)
              clear hb5 y0' y1' y2' y3' y4' y5' y6'
              go_wp2_with fail
              go_meet
              exact ⟨L, R, used, most, HI5.out⟩
        case rest =>
          obtain ⟨L', R', used', most', hI'⟩ := hcut
          clear HI2 HNW x0' y0 y1 y2 y3 y4 y5 y6 hvw hs H
          have hIL := hI'.low
          obtain ⟨A2, c2, rfl, -⟩ := own_row hI'.row
          have hrl : R'.length ≤ 12 := by have := hI'.len; omega
          have hsum := hI'.sum
          have hu1 := hI'.u1
          have hm0 := hI'.m0
          have hm1 := hI'.m1
          have hlen := hI'.len
          have HI' := Lib.hid hI'
          have HSUM := Lib.hid hsum
          clear hI' hsum
          go_wp2_with fail
          go_loopw [14, 15] (fun s j wr2 => ∃ m : Nat, m ≤ R'.length ∧ j = .int .i64 m ∧ s = .int .i64 (sumEv ((R'.map (·.e)).take m)) ∧ Below wc.heap.size wc wr2) (fun _ j _ => R'.length - (intOf j).toNat)
          case atStart => exact ⟨0, Nat.zero_le _, rfl, rfl, Below.refl _ _⟩
          case round =>
            obtain ⟨m, hm, rfl, rfl, hbw⟩ := hrel
            by_cases hlm : m < R'.length
            · have hI3 := HI'.out.keep hbw
              obtain ⟨A', c', e', -, -, hr3⟩ := own_row hI3.row
              cases e'
              obtain ⟨b3, o3, rfl, hc3⟩ := hr3 (by rw [erCells_length]; omega)
              have hc4 : ∀ j u, (R'[m].cells)[j]? = some u → wr.cell? ⟨b3, o3 + m * 7 + j, none⟩ = some u := fun j u hu => by
                rw [Nat.add_assoc]; exact hc3 _ u (erCells_get R' m hlm j u hu)
              have hat := hI3.at_ R'[m] (List.getElem_mem _)
              have hgr : (R'.map (·.e))[m]'(by simpa using hlm) = R'[m].e := by simp
              have htk := sumEv_take (R'.map (·.e)) m (by simpa using hlm)
              rw [hgr] at htk
              have htl := sumEv_take_le (R'.map (·.e)) (m + 1)
              have htn := sumEv_nonneg ((R'.map (·.e)).take m)
              rw [← HSUM.out] at htl
              rw [htk] at htl
              generalize R'[m] = r at *
              have hev := hat.2.below hI3.low
              have hsr := hat.1
              have x0 := hc4 0 _ rfl; have x1 := hc4 1 _ rfl; have x2 := hc4 2 _ rfl; have x3 := hc4 3 _ rfl; have x4 := hc4 4 _ rfl; have x5 := hc4 5 _ rfl; have x6 := hc4 6 _ rfl
              rw [Nat.add_zero] at x0
              have q1 : (0 : Int) ≤ (m : Int) := by omega
              have q2 : (m : Int) < (R'.length : Int) := by omega
              obtain ⟨T, hT⟩ : ∃ T, sumEv ((R'.map (·.e)).take m) = T := ⟨_, rfl⟩
              obtain ⟨S, hS⟩ : ∃ S, r.e.size = S := ⟨_, rfl⟩
              rw [hS] at htk htl
              rw [hT] at htk htl htn
              rw [hT]
              have HTK := Lib.hid htk
              have HEV := Lib.hid hev
              have HS := Lib.hid hS
              clear hc3 hc4 hI3 hat hgr hev hT hr3 hS htk
              go_wp2_with fail
              refine (ev_Size r.e (r.e.val r.A r.c r.B r.d) _ hsr HEV.out).mono ?_
              rintro e w5 ⟨rfl, hb5⟩
              rw [HS.out]
              have hb5' := below_trans hbw hb5
              clear x0 x1 x2 x3 x4 x5 x6 hb5
              go_wp2_with fail
              exact ⟨⟨m + 1, by omega, by simp, by rw [HTK.out], hb5'⟩, by simp [intOf]; omega⟩
            · obtain rfl : m = R'.length := by omega
              rw [List.take_of_length_le (by simp), ← HSUM.out]
              go_wp2_with fail
              refine (law_used ((HI'.out.keep hbw).sp) used' (R'.length : Int)).mono ?_
              rintro e w5 ⟨rfl, hb5⟩
              rw [show (used' == used' && ((L'.length : Int) == (R'.length : Int))) = true from by rw [HI'.out.llen]; simp]
              have HI5 := Lib.hid ((HI'.out.keep hbw).keep hb5)
              clear hb5
              go_wp2_with fail
              refine (spool_Most HI5.out.sp).mono ?_
              rintro e w6 ⟨rfl, hb6⟩
              have HI6 := Lib.hid (HI5.out.keep hb6)
              clear hb6 HI5
              go_wp2_with fail
              refine (spool_Most HI6.out.sp).mono ?_
              rintro e w7 ⟨rfl, hb7⟩
              have HI7 := Lib.hid (HI6.out.keep hb7)
              clear hb7 HI6
              go_wp2_with fail
              refine (spool_All HI7.out.sp (by rw [HI7.out.llen]; omega)).mono ?_
              rintro e w8 ⟨⟨v8, R8, rfl, ho8, her8, hmap8⟩, hb8⟩
              have HI8 := Lib.hid (HI7.out.keep hb8)
              obtain ⟨A8, c8, rfl, -⟩ := own_row ho8
              have hE8 := evs_own ho8 her8
              rw [hmap8, ← HI8.out.same] at hE8
              have hl8 : R8.length = R'.length := by have := congrArg List.length hmap8; rw [List.length_map, List.length_map, HI8.out.llen] at this; exact this
              rw [hl8]
              have hW8 := evs_want HI8.out
              have HE := Lib.hid (And.intro hE8 hW8)
              clear hE8 hW8 hl8 hmap8 her8 ho8 hb8 HI7
              have hcmp := kit_SameEvents (R'.map (·.e)) A8 A2 c8 c2 w8 HE.out.1 HE.out.2 (by rw [List.length_map]; omega)
              rw [List.length_map] at hcmp
              have HCMP := Lib.hid hcmp
              clear hcmp
              go_wp2_with fail
              refine (HCMP.out).mono ?_
              rintro e w9 ⟨rfl, hb9⟩
              have HI9 := Lib.hid (HI8.out.keep hb9)
              clear hb9 HI8 HE HCMP HSUM
              go_wp2_with fail
              exact ⟨⟨k + 1, by omega, by simp, L', R', used', most', HI9.out⟩, by simp [intOf]; omega⟩
      · obtain rfl : k = l.length := by omega
        have hlow := hI.low
        clear hI
        go_wp2_with fail
        go_ret
        exact ⟨rfl, hlow⟩
end Go.Proofs.YtfdnobhedbglgaaGreatDoor
