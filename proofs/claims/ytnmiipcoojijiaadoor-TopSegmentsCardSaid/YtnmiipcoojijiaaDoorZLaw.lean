/-
  rickyardtop.TopSegments' contract; conditions: those that each theorem states.
-/
import Derived.Test.YtnmiipcoojijiaaDoorGM
namespace Go.Proofs.YtnmiipcoojijiaaDoor.Top
set_option linter.unusedSimpArgs false
set_option linter.unusedVariables false
open Go.RowKit Go.Proofs.YtnmiipcoojijiaaDoorW.PrintWords Go.Proofs.YtnmiipcoojijiaaDoorW.PrintLast Go.Proofs.YtnmiipcoojijiaaDoorW.PrintMore Go.Proofs.YtnmiipcoojijiaaDoor.Plain Go.Proofs.YtnmiipcoojijiaaDoor.Fns
set_option maxRecDepth 100000 in
set_option maxHeartbeats 16000000 in
theorem law_c {w : World} {LA : Option Addr} {lb lo LC : Nat} {L : List Rw} {fail ops : Int} {KA : Option Addr} {KC : Nat} {ks : List Int} (hL : LsIn w LA lb lo L) (hfa : -9223372036854775808 ≤ fail ∧ fail < 9223372036854775808) (hK : Keeps w.heap.size w KA ks) :
    Calls Tryd.prog 3 #[.slice LA L.length LC, .int .i64 fail, .int .i64 ops, .slice KA ks.length KC] w fun e w' => e = .returned (.bool true) ∧ Below w.heap.size w w' := by
  have HN := Aside0.mk (new_c (w := w) (room := 1048576) (by omega))
  have HAL := Aside0.mk (fun W : World => alive_c W)
  have HFL : Aside0 (∀ W, FsAt (fs0 w.heap.size 1048576) 0 W → Calls Tryd.prog 6 #[.pointer (some ⟨w.heap.size + 2, 0, none⟩), .int .i64 fail, .int .i64 82] W fun e w' => ∃ v F, e = .returned v ∧ FsAt F 0 w' ∧ KeepFs w.heap.size W w' ∧ SegI w.heap.size F []) := ⟨fun W hW => (fail_c hW hfa).mono fun e w' ⟨⟨v, he⟩, h1, h2⟩ => ⟨v, _, he, h1, h2, SegI.fail (SegI.fresh _ _) _ _ _⟩⟩
  have HL := Aside0.mk hL
  have HK := Aside0.mk hK
  clear hL hfa hK
  by_cases h1 : 6 < L.length
  · have t1 : decide (6 < L.length) = true := decide_eq_true h1
    have t1' : decide ((6 : Int) < (L.length : Int)) = true := decide_eq_true (by omega)
    go_enter Tryd.func3, Tryd.ntmps3
    go_wp2_with (first
      | (go_at_call 4; refine HN.out.mono ?_; rintro e w1 ⟨rfl, hf1, hb1⟩)
      | (go_at_call 5; refine (HAL.out _).mono ?_; rintro e w2 ⟨rfl, hb2⟩)
      | fail)
    go_ret
    exact ⟨rfl, hb1.trans (hb2.mono hb1.size)⟩
  · by_cases h2 : 100 < ks.length
    · have t1 : decide (6 < L.length) = false := decide_eq_false h1
      have t1' : decide ((6 : Int) < (L.length : Int)) = false := decide_eq_false (by omega)
      have t2 : decide (100 < ks.length) = true := decide_eq_true h2
      have t2' : decide ((100 : Int) < (ks.length : Int)) = true := decide_eq_true (by omega)
      go_enter Tryd.func3, Tryd.ntmps3
      go_wp2_with (first
        | (go_at_call 4; refine HN.out.mono ?_; rintro e w1 ⟨rfl, hf1, hb1⟩)
        | (go_at_call 5; refine (HAL.out _).mono ?_; rintro e w2 ⟨rfl, hb2⟩)
        | fail)
      go_ret
      exact ⟨rfl, hb1.trans (hb2.mono hb1.size)⟩
    · have t1 : decide (6 < L.length) = false := decide_eq_false h1
      have t1' : decide ((6 : Int) < (L.length : Int)) = false := decide_eq_false (by omega)
      have t2 : decide (100 < ks.length) = false := decide_eq_false h2
      have t2' : decide ((100 : Int) < (ks.length : Int)) = false := decide_eq_false (by omega)
      go_enter Tryd.func3, Tryd.ntmps3
      go_upto_block 0 with (first
        | (go_at_call 4; refine HN.out.mono ?_; rintro e w1 ⟨rfl, hf1, hb1⟩)
        | (go_at_call 6; refine (HFL.out _ hf1).mono ?_; rintro e w2 ⟨v2, F2, rfl, hf2, hk2, hs2⟩)
        | fail)
      go_cut [11] (fun v11 W => CrI w v11 W)
      case first =>
        have HO0 := Aside0.mk (⟨hs2, hf2, ⟨0, World.ownsRow_nil _ _ _ _, fun d hd => (by cases hd), fun d hd => (by cases hd)⟩, fun d hd => (by cases hd), hb1.trans hk2.be, rfl, Nat.le_refl _⟩ : OutI w 0 0 F2 [] (.slice none 0 0) w2)
        clear hs2 hf2 hk2 hf1 hb1
        go_wp2_with fail
        go_loopw [11, 12] (fun av iv wr => ∃ (i : Nat), iv = .int .i64 i ∧ i ≤ L.length ∧ Aside0 (∃ q F ds, OutI w i q F ds av wr)) (fun _ i _ => L.length - (intOf i).toNat)
        case atStart => exact ⟨0, rfl, Nat.zero_le _, ⟨_, _, _, HO0.out⟩⟩
        case round =>
          obtain ⟨i, rfl, hi, HO⟩ := hrel
          by_cases hlt : i < L.length
          · have g1 : decide (i < L.length) = true := decide_eq_true hlt
            have g1' : decide ((i : Int) < (L.length : Int)) = true := decide_eq_true (by omega)
            have g2 : (0 : Int) ≤ (i : Int) := by omega
            have g3 : (i : Int) < (L.length : Int) := by omega
            obtain ⟨q, F, ds, hO⟩ := HO.out
            obtain rfl := HL.out.a (by intro e; rw [e] at hlt; simp at hlt)
            have hx := HL.out.rd _ (List.getElem_mem hlt)
            have hlc := HL.out.c i hlt
            generalize L[i] = x at *
            obtain ⟨xA, xb, xo, xc, xr⟩ := x
            simp only at hlc
            have HST := Aside0.mk (start_l hO (by omega))
            have HX := Aside0.mk hx
            obtain ⟨xl, hxl⟩ : ∃ xl, xl = xr.length := ⟨_, rfl⟩
            rw [← hxl] at hlc
            have HXL := Aside0.mk hxl
            have HLC := Aside0.mk (fun (W : World) (hW : Below w.heap.size w W) => cell_below hW hlc)
            clear hO hx hlc hxl
            go_upto_block 2 with (first
              | (go_at_call 7; refine HST.out.mono ?_; rintro e w3 (⟨r3, rfl, hc3, q1, q2, q3⟩ | ⟨l3, b3, F3, rfl, hJ3⟩))
              | fail)
            · go_meet
              exact hc3
            · have HJ0 := Aside0.mk hJ3
              have h24 : w.heap.size ≤ w3.heap.size := hJ3.be.size
              clear hJ3
              go_cut [14, 15] (fun gv dv W => ∃ g : Int, gv = .int .i64 g ∧ Aside0 (∃ F rs, InJ w i l3 b3 (q + 2) w3.heap.size ds u11 dv F rs rs W ∧ rs.length ≤ 12))
              case first =>
                go_wp2_with fail
                go_loopw [14, 15, 16] (fun gv dv kv wv => ∃ (g : Int) (k : Nat), gv = .int .i64 g ∧ kv = .int .i64 k ∧ k ≤ 12 ∧ Aside0 (∃ F rs, InJ w i l3 b3 (q + 2) w3.heap.size ds u11 dv F rs rs wv ∧ rs.length ≤ k)) (fun _ _ kv _ => 12 - (intOf kv).toNat)
                case atStart => exact ⟨0, 0, rfl, rfl, by omega, ⟨_, [], HJ0.out, Nat.le_refl _⟩⟩
                case round =>
                  obtain ⟨g, k, rfl, rfl, hk, HJ⟩ := hrel
                  obtain ⟨F5, rs, hJ, hrk⟩ := HJ.out
                  have HJJ := Aside0.mk (And.intro hJ hrk)
                  have hz0 := HLC.out _ hJ.be
                  clear HJ hJ hrk
                  by_cases hkx : k < xl
                  · have p1 : decide (k < xl) = true := decide_eq_true hkx
                    have p1' : decide ((k : Int) < (xl : Int)) = true := decide_eq_true (by omega)
                    have p2 : (0 : Int) ≤ (k : Int) := by omega
                    have p3 : (k : Int) < (xl : Int) := by omega
                    by_cases hk12 : k < 12
                    · have p4 : decide (k < 12) = true := decide_eq_true hk12
                      have p4' : decide ((k : Int) < 12) = true := decide_eq_true (by omega)
                      by_cases hg0 : g = 0
                      · subst hg0
                        have hkr : k < xr.length := by rw [← HXL.out]; exact hkx
                        have hxa : xA = some ⟨xb, xo, none⟩ := HX.out.a (fun (e : xr = []) => by rw [e] at hkr; simp at hkr)
                        subst hxa
                        have hc0 := HX.out.c0 k hkr
                        have hc1 := HX.out.c1 k hkr
                        have hrr := HX.out.rd _ (List.getElem_mem hkr)
                        simp only at hc0 hc1 hrr
                        generalize xr[k] = r at *
                        have HRR := Aside0.mk hrr
                        have HRC := Aside0.mk (fun (W : World) (hW : Below w.heap.size w W) => And.intro (cell_below hW hc0) (cell_below hW hc1))
                        have HGR := Aside0.mk (rgreat_c (hrr.1.below HJJ.out.1.be))
                        have HAD := Aside0.mk (fun (W : World) (hW : InJ w i l3 b3 (q + 2) w3.heap.size ds u11 u15 F5 rs rs W) => add_l hW hrr.1 hrr.2)
                        unfold Rc.v at HGR
                        obtain ⟨z1, z2⟩ := HRC.out _ HJJ.out.1.be
                        obtain ⟨i0, hi', hzz⟩ := Option.map_eq_some_iff.1 info_rec
                        simp only [Prod.mk.injEq] at hzz
                        obtain ⟨hz0', hz1', hz2'⟩ := hzz
                        clear hc0 hc1 hrr hkr
                        go_wp2_with (first
                          | (go_at_call 8
                             refine HGR.out.mono ?_
                             rintro e w5 ⟨⟨bo, rfl⟩, hb5⟩
                             have HJ5 := Aside0.mk (HJJ.out.1.below hb5)
                             have y0 := HLC.out _ HJ5.out.be
                             obtain ⟨y1, y2⟩ := HRC.out _ HJ5.out.be
                             clear hb5
                             cases bo)
                          | (go_at_call 5; refine (HAL.out _).mono ?_; rintro e w9 ⟨rfl, hb9⟩)
                          | (go_at_call 9
                             refine (HAD.out _ HJ5.out).mono ?_
                             rintro e w6 ⟨g6, F6, rfl, hR⟩
                             rcases hR with ⟨rfl, hB6⟩ | ⟨hJ6, hg6, q1, q2, q3, q4⟩ | ⟨rfl, hK6⟩
                             all_goals (try (
                               have HJ6 := Aside0.mk (And.intro hJ6 hg6)
                               clear hJ6 hg6))
                             all_goals (try (
                               have HK6 := Aside0.mk hK6
                               have x0 := HLC.out _ HK6.out.be
                               obtain ⟨x1, x2⟩ := HRC.out _ HK6.out.be
                               clear hK6)))
                          | (at_builtin
                             refine wpList_append_own_at _ rfl _ _ 33 rfl w3.heap.size 37 i0 _ 2 32 Tryd.underlying33 hi' hz0' hz1' hz2' rfl (by decide) _ _ _ rfl (HK6.out.own.alloc _) ⟨w6.heap.size, 0, none⟩ 1 1 r.cells (by first | rfl | (simp [World.size_alloc]; done)) rfl (rc_new _ r) (rc_one r) (by have := HJJ.out.2; simp only [maxLen]; omega) (by have := HJJ.out.2; omega) (by have := HK6.out.nb.2; simp only [World.size_alloc] at *; omega) ?_
                             intro v7 w7 hown7 hg7 hnil7 hat7)
                          | fail)
                        · go_ret
                          exact ⟨rfl, hB6.trans (hb9.mono hB6.size)⟩
                        · exact ⟨⟨g6, k + 1, rfl, by go_num, by omega, ⟨F6, rs, HJ6.out.1, by have := HJJ.out.2; omega⟩⟩, by simp [intOf]; omega⟩
                        · exact ⟨⟨0, k + 1, rfl, by go_num, by omega, ⟨F6, rs ++ [r], HK6.out.push hg7 hown7, by have := HJJ.out.2; rw [List.length_append, List.length_singleton]; omega⟩⟩, by simp [intOf]; omega⟩
                        · go_ret
                          exact ⟨rfl, HJ5.out.be.trans (hb9.mono HJ5.out.be.size)⟩
                      · have q1 : decide (g = 0) = false := decide_eq_false hg0
                        have q2 : (g == 0) = false := by simp [hg0]
                        clear hg0
                        go_wp2_with fail
                        go_meet
                        exact ⟨g, rfl, ⟨F5, rs, HJJ.out.1, by have := HJJ.out.2; omega⟩⟩
                    · have p4 : decide (k < 12) = false := decide_eq_false hk12
                      have p4' : decide ((k : Int) < 12) = false := decide_eq_false (by omega)
                      go_wp2_with fail
                      go_meet
                      exact ⟨g, rfl, ⟨F5, rs, HJJ.out.1, by have := HJJ.out.2; omega⟩⟩
                  · have p1 : decide (k < xl) = false := decide_eq_false hkx
                    have p1' : decide ((k : Int) < (xl : Int)) = false := decide_eq_false (by omega)
                    go_wp2_with fail
                    go_meet
                    exact ⟨g, rfl, ⟨F5, rs, HJJ.out.1, by have := HJJ.out.2; omega⟩⟩
              case rest =>
                obtain ⟨g, rfl, HE⟩ := hcut
                obtain ⟨F5, rs, hJ, h12⟩ := HE.out
                obtain ⟨A5, c5, b5, rfl, _, _, _⟩ := own_sl hJ.own
                have hJJ : InJ w i l3 b3 (q + 2) w3.heap.size ds u11 (Dn.v ⟨A5, c5, rs⟩) F5 (Dn.rs ⟨A5, c5, rs⟩) (Dn.rs ⟨A5, c5, rs⟩) wc := hJ
                have HJJ := Aside0.mk (And.intro hJJ h12)
                have hdl : ds.length ≤ 5 := by rw [hJ.ln]; omega
                have HDL := Aside0.mk hdl
                obtain ⟨i0, hi', hzz⟩ := Option.map_eq_some_iff.1 info_row
                simp only [Prod.mk.injEq] at hzz
                obtain ⟨hz0', hz1', hz2'⟩ := hzz
                clear HE hJ hJJ h12 hdl
                by_cases hg0 : g = 0
                · subst hg0
                  go_wp2_with (first
                    | (at_builtin
                       refine wpList_append_own_at _ rfl _ _ 22 rfl w.heap.size 33 i0 _ 1 24 Tryd.underlying22 hi' hz0' hz1' hz2' rfl (by decide) _ _ _ rfl (HJJ.out.1.al.own.alloc _) ⟨wc.heap.size, 0, none⟩ 1 1 [.slice A5 rs.length c5] (by first | rfl | (simp [World.size_alloc]; done)) rfl (row_new _ _) (fun u hu => by (simp only [List.mem_singleton] at hu; subst hu; rfl)) (by have := HDL.out; simp only [maxLen]; omega) (by have := HDL.out; omega) (by have := HJJ.out.1.nb; simp only [World.size_alloc] at *; omega) ?_
                       intro v7 w7 hown7 hg7 hnil7 hat7
                       have HOU := Aside0.mk (HJJ.out.1.all HJJ.out.2 hg7 hown7)
                       clear hown7 hg7 hnil7 hat7)
                    | (go_at_call 10
                       refine (sync_l HOU.out (by omega)).mono ?_
                       rintro e w8 ⟨z8, rfl, hR⟩
                       rcases hR with ⟨hc8, q1, q2, q3⟩ | ⟨rfl, F8, hO8⟩)
                    | fail)
                  · go_meet
                    exact hc8
                  · exact ⟨⟨i + 1, by go_num, by omega, ⟨_, F8, _, hO8⟩⟩, by simp [intOf]; omega⟩
                · have q1 : decide (g = 0) = false := decide_eq_false hg0
                  have q2 : (g == 0) = false := by simp [hg0]
                  have q3 : (g != 0) = true := by simp [hg0]
                  clear hg0
                  go_wp2_with (first
                    | (at_builtin
                       refine wpList_append_own_at _ rfl _ _ 22 rfl w.heap.size 33 i0 _ 1 24 Tryd.underlying22 hi' hz0' hz1' hz2' rfl (by decide) _ _ _ rfl (HJJ.out.1.al.own.alloc _) ⟨wc.heap.size, 0, none⟩ 1 1 [.slice A5 rs.length c5] (by first | rfl | (simp [World.size_alloc]; done)) rfl (row_new _ _) (fun u hu => by (simp only [List.mem_singleton] at hu; subst hu; rfl)) (by have := HDL.out; simp only [maxLen]; omega) (by have := HDL.out; omega) (by have := HJJ.out.1.nb; simp only [World.size_alloc] at *; omega) ?_
                       intro v7 w7 hown7 hg7 hnil7 hat7
                       have HOU := Aside0.mk (HJJ.out.1.all HJJ.out.2 hg7 hown7)
                       clear hown7 hg7 hnil7 hat7)
                    | fail)
                  go_meet
                  exact HOU.out.crash (by omega)
          · obtain rfl : i = L.length := by omega
            have g1 : decide (L.length < L.length) = false := decide_eq_false hlt
            have g1' : decide ((L.length : Int) < (L.length : Int)) = false := decide_eq_false (by omega)
            obtain ⟨q, F, ds, hO⟩ := HO.out
            have HC := Aside0.mk (hO.crash (by omega))
            clear hO
            go_wp2_with fail
            go_meet
            exact HC.out
      case rest =>
        obtain ⟨F, q, ds, B, hs, hf, hq, ha, hok, hb, h6⟩ := hcut
        obtain ⟨AA, ac, ag, rfl, hAA⟩ := ha.slice
        have HCR := Aside0.mk (crash_l (ops := ops) (kc := KC) hs hf hq ha hb HK.out (by omega))
        have HAA := Aside0.mk (And.intro hAA hok)
        obtain ⟨nd, hnd⟩ : ∃ nd, nd = ds.length := ⟨_, rfl⟩
        rw [← hnd] at h6 HCR ⊢
        have HND := Aside0.mk hnd
        clear hs hf hq ha hb hAA hok hnd
        go_wp2_with (first
          | (go_at_call 11; refine HCR.out.mono ?_; rintro e w3 ⟨F3, q3, rfl, hf3, hs3, ha3, hb3⟩)
          | fail)
        have HS3 := Aside0.mk hs3
        have HI3 := Aside0.mk (And.intro hf3 (And.intro ha3 hb3))
        clear hf3 hs3 ha3 hb3
        go_loopw [17] (fun iv wr => ∃ j : Nat, iv = .int .i64 j ∧ j ≤ nd ∧ Aside0 (FsAt F3 q3 wr ∧ AllI w.heap.size B ds (.slice AA nd ac) wr ∧ Below w.heap.size w wr)) (fun iv _ => nd - (intOf iv).toNat)
        case atStart => exact ⟨0, rfl, Nat.zero_le _, HI3⟩
        case round =>
          obtain ⟨j, rfl, hj, HI⟩ := hrel
          by_cases hlt : j < nd
          · have g1 : decide (j < nd) = true := decide_eq_true hlt
            have g1' : decide ((j : Int) < (nd : Int)) = true := decide_eq_true (by omega)
            have g2 : (0 : Int) ≤ (j : Int) := by omega
            have g3 : (j : Int) < (nd : Int) := by omega
            have hjd : j < ds.length := by rw [← HND.out]; exact hlt
            obtain rfl := HAA.out.1 (by intro e; rw [e] at hjd; simp at hjd)
            have z0 := HI.out.2.1.cell hjd
            have hdok := HAA.out.2 _ (List.getElem_mem hjd)
            obtain ⟨bd, hsl, hnone, hcap, hsome⟩ := HI.out.2.1.sl (List.getElem_mem hjd)
            have HRP := Aside0.mk (replay_l HS3.out HI.out.1 hjd hdok)
            rw [← HND.out] at HRP
            generalize ds[j] = d at *
            obtain ⟨dA, dc, dr⟩ := d
            simp only at z0 hsl hnone hcap hsome HRP
            obtain ⟨ln, hln⟩ : ∃ ln, ln = dr.length := ⟨_, rfl⟩
            rw [← hln] at z0 hnone hcap
            have HLN := Aside0.mk hln
            have h12 : ln ≤ 12 := by rw [hln]; exact hdok.1
            have HRP : Aside0 (Calls Tryd.prog 12 #[.pointer (some ⟨w.heap.size + 2, 0, none⟩), .int .i64 ((j : Int) + 1)] wr fun e w' => ∃ (A : Option Addr) (c b : Nat) (rs : List Rc), e = .returned (.tuple #[.slice A rs.length c, .int .i64 0]) ∧ RcSl w' A b rs ∧ rs.map Rc.pr = (dr.take rs.length).map Rc.pr ∧ rs.length ≤ ln ∧ (j + 1 < nd → rs.length = ln) ∧ (∀ r ∈ rs, RcOwn wr.heap.size w' r) ∧ Below wr.heap.size wr w') := by rw [hln]; exact HRP
            have HD := Aside0.mk (And.intro hdok (And.intro hsl (And.intro hnone (And.intro hcap hsome))))
            clear hjd hdok hsl hnone hcap hsome hln
            by_cases hj1 : j + 1 < nd
            · have v1 : decide (j + 1 < nd) = true := decide_eq_true hj1
              have v1' : decide ((j : Int) + 1 < (nd : Int)) = true := decide_eq_true (by omega)
              go_wp2_with (first
                | (go_at_call 12
                   refine HRP.out.mono ?_
                   rintro e w5 ⟨A5, c5, b5, rs, rfl, hsl5, hpr5, hle5, heq5, hro5, hb5⟩
                   have u1 : decide (ln < rs.length) = false := decide_eq_false (by omega)
                   have u1' : decide ((ln : Int) < (rs.length : Int)) = false := decide_eq_false (by omega)
                   have z5 : w5.cell? ⟨ag, j, none⟩ = some (.slice dA ln dc) := cell_below hb5 z0
                   have u2 : decide (rs.length < ln) = false := decide_eq_false (by have := heq5 hj1; omega)
                   have u2' : decide ((rs.length : Int) < (ln : Int)) = false := decide_eq_false (by have := heq5 hj1; omega)
                   have H5 := Aside0.mk (And.intro hsl5 (And.intro hpr5 (And.intro hle5 (And.intro hro5 hb5))))
                   clear hsl5 hpr5 hle5 heq5 hro5 hb5)
                | fail)
              have hcut5 := row_front dA ln dc rs.length (by have := H5.out.2.2.1; have := HD.out.2.2.2.1; omega)
              obtain ⟨ss, hss⟩ : ∃ ss, ss = dr.take rs.length := ⟨_, rfl⟩
              have hsl : ss.length = rs.length := by rw [hss, List.length_take, ← HLN.out]; have := H5.out.2.2.1; omega
              have hr12 : rs.length ≤ 12 := by have := H5.out.2.2.1; omega
              have HS1 : Aside0 (∀ W, Below w5.heap.size w5 W → Calls Tryd.prog 14 #[.slice A5 rs.length c5] W fun e w' => ∃ v, e = .returned v ∧ w'.ownsRow W.heap.size 76 2 v rs.length (rs.flatMap Rc.cells) ∧ Below W.heap.size W w') := ⟨fun W hW => asall_c (H5.out.1.below hW) (by omega)⟩
              have HS2 : Aside0 (∀ W, Below w5.heap.size w5 W → Calls Tryd.prog 14 #[.slice dA rs.length dc] W fun e w' => ∃ v, e = .returned v ∧ w'.ownsRow W.heap.size 76 2 v rs.length (ss.flatMap Rc.cells) ∧ Below W.heap.size W w') := ⟨fun W hW => by
                have h9 := asall_c (c := dc) (((HD.out.2.1.below H5.out.2.2.2.2).below hW).take rs.length) (by rw [← hss, hsl]; omega)
                rw [← hss, hsl] at h9
                exact h9⟩
              have HSA : Aside0 (∀ (W : World) (v1 v2 : Value) (B1 B2 : Nat), Below w5.heap.size w5 W → W.ownsRow B1 76 2 v1 rs.length (rs.flatMap Rc.cells) → W.ownsRow B2 76 2 v2 rs.length (ss.flatMap Rc.cells) → Calls Tryd.prog 13 #[v1, v2] W fun e w' => e = .returned (.bool true) ∧ Below W.heap.size W w') := ⟨fun W v1 v2 B1 B2 hW ho1 ho2 => by
                rw [← hsl] at ho2
                obtain ⟨A7, c7, b7, rfl, hs7, _, _⟩ := own_sl ho1
                obtain ⟨A8, c8, b8, rfl, hs8, _, _⟩ := own_sl ho2
                exact sameall_c hs7 hs8 (by rw [H5.out.2.1, hss]) (fun r hr => ((H5.out.2.2.2.1 r hr).below hW).rd) (fun r hr => by
                  rw [hss] at hr
                  exact (HD.out.1.2 r (List.mem_of_mem_take hr)).1.below ((HI.out.2.2.trans (H5.out.2.2.2.2.mono HI.out.2.2.size)).trans (hW.mono (Nat.le_trans HI.out.2.2.size H5.out.2.2.2.2.size)))) (fun r hr => ⟨by have := (H5.out.2.2.2.1 r hr).sz.1; omega, fun x hx => by have := (H5.out.2.2.2.1 r hr).sz.2 x hx; omega⟩) (by omega)⟩
              have HX5 := Aside0.mk (fun (W : World) (hW : Below w5.heap.size w5 W) => (⟨hW, cell_below hW z5⟩ : Below w5.heap.size w5 W ∧ W.cell? ⟨ag, j, none⟩ = some (.slice dA ln dc)))
              clear hss hsl
              go_region_held3 (fun w' => Below w5.heap.size w5 w' ∧ w'.cell? ⟨ag, j, none⟩ = some (.slice dA ln dc)) (exact HX5.out _ (by (repeat' (first | with_reducible exact Below.refl _ _ | with_reducible assumption | with_reducible apply bdrew | with_reducible apply bdrewN | with_reducible apply balloc | with_reducible refine bset ?_ (Nat.le_refl _))))) (first
                | (go_at_call 13; refine (HSA.out _ _ _ _ _ hb8 HO1.out HO2.out).mono ?_; rintro e w9 ⟨rfl, hb9'⟩; have hb9 : Below w5.heap.size w5 w9 := hb8.trans (hb9'.mono hb8.size); clear hb9')
                | (have _h := HO1.out; go_at_call 14; refine (HS2.out _ hb7).mono ?_; rintro e w8 ⟨v8, rfl, ho8, hb8'⟩; have hb8 : Below w5.heap.size w5 w8 := hb7.trans (hb8'.mono hb7.size); have HO1 := Aside0.mk (own_below HO1.out hb8'); have HO2 := Aside0.mk ho8; clear ho8 hb8')
                | (go_at_call 14; refine (HS1.out _ (by (repeat' (first | with_reducible exact Below.refl _ _ | with_reducible assumption | with_reducible apply bdrew | with_reducible apply bdrewN | with_reducible apply balloc | with_reducible refine bset ?_ (Nat.le_refl _))))).mono ?_; rintro e w7 ⟨v7, rfl, ho7, hb7'⟩; have hb7 : Below w5.heap.size w5 w7 := (bdrew (Below.refl _ w5)).trans hb7'; have HO1 := Aside0.mk ho7; clear ho7 hb7')
                | fail)
              all_goals
                rename_i hHeld
                have H9 := Aside0.mk hb9
                clear hb9 hHeld
                have hB9 : Below wr.heap.size wr w9 := H5.out.2.2.2.2.trans (H9.out.mono H5.out.2.2.2.2.size)
                have HB9 := Aside0.mk hB9
                clear hB9 hcut5
                go_wp2_with fail
                go_roundw
                case rel => exact ⟨j + 1, by go_num, by omega, ⟨HI.out.1.below HB9.out, HI.out.2.1.below HB9.out, HI.out.2.2.trans (HB9.out.mono HI.out.2.2.size)⟩⟩
                case measure => simp [intOf]; omega
            · have v1 : decide (j + 1 < nd) = false := decide_eq_false hj1
              have v1' : decide ((j : Int) + 1 < (nd : Int)) = false := decide_eq_false (by omega)
              go_wp2_with (first
                | (go_at_call 12
                   refine HRP.out.mono ?_
                   rintro e w5 ⟨A5, c5, b5, rs, rfl, hsl5, hpr5, hle5, heq5, hro5, hb5⟩
                   have u1 : decide (ln < rs.length) = false := decide_eq_false (by omega)
                   have u1' : decide ((ln : Int) < (rs.length : Int)) = false := decide_eq_false (by omega)
                   have z5 : w5.cell? ⟨ag, j, none⟩ = some (.slice dA ln dc) := cell_below hb5 z0
                   have H5 := Aside0.mk (And.intro hsl5 (And.intro hpr5 (And.intro hle5 (And.intro hro5 hb5))))
                   clear hsl5 hpr5 hle5 heq5 hro5 hb5)
                | fail)
              have hcut5 := row_front dA ln dc rs.length (by have := H5.out.2.2.1; have := HD.out.2.2.2.1; omega)
              obtain ⟨ss, hss⟩ : ∃ ss, ss = dr.take rs.length := ⟨_, rfl⟩
              have hsl : ss.length = rs.length := by rw [hss, List.length_take, ← HLN.out]; have := H5.out.2.2.1; omega
              have hr12 : rs.length ≤ 12 := by have := H5.out.2.2.1; omega
              have HS1 : Aside0 (∀ W, Below w5.heap.size w5 W → Calls Tryd.prog 14 #[.slice A5 rs.length c5] W fun e w' => ∃ v, e = .returned v ∧ w'.ownsRow W.heap.size 76 2 v rs.length (rs.flatMap Rc.cells) ∧ Below W.heap.size W w') := ⟨fun W hW => asall_c (H5.out.1.below hW) (by omega)⟩
              have HS2 : Aside0 (∀ W, Below w5.heap.size w5 W → Calls Tryd.prog 14 #[.slice dA rs.length dc] W fun e w' => ∃ v, e = .returned v ∧ w'.ownsRow W.heap.size 76 2 v rs.length (ss.flatMap Rc.cells) ∧ Below W.heap.size W w') := ⟨fun W hW => by
                have h9 := asall_c (c := dc) (((HD.out.2.1.below H5.out.2.2.2.2).below hW).take rs.length) (by rw [← hss, hsl]; omega)
                rw [← hss, hsl] at h9
                exact h9⟩
              have HSA : Aside0 (∀ (W : World) (v1 v2 : Value) (B1 B2 : Nat), Below w5.heap.size w5 W → W.ownsRow B1 76 2 v1 rs.length (rs.flatMap Rc.cells) → W.ownsRow B2 76 2 v2 rs.length (ss.flatMap Rc.cells) → Calls Tryd.prog 13 #[v1, v2] W fun e w' => e = .returned (.bool true) ∧ Below W.heap.size W w') := ⟨fun W v1 v2 B1 B2 hW ho1 ho2 => by
                rw [← hsl] at ho2
                obtain ⟨A7, c7, b7, rfl, hs7, _, _⟩ := own_sl ho1
                obtain ⟨A8, c8, b8, rfl, hs8, _, _⟩ := own_sl ho2
                exact sameall_c hs7 hs8 (by rw [H5.out.2.1, hss]) (fun r hr => ((H5.out.2.2.2.1 r hr).below hW).rd) (fun r hr => by
                  rw [hss] at hr
                  exact (HD.out.1.2 r (List.mem_of_mem_take hr)).1.below ((HI.out.2.2.trans (H5.out.2.2.2.2.mono HI.out.2.2.size)).trans (hW.mono (Nat.le_trans HI.out.2.2.size H5.out.2.2.2.2.size)))) (fun r hr => ⟨by have := (H5.out.2.2.2.1 r hr).sz.1; omega, fun x hx => by have := (H5.out.2.2.2.1 r hr).sz.2 x hx; omega⟩) (by omega)⟩
              have HX5 := Aside0.mk (fun (W : World) (hW : Below w5.heap.size w5 W) => (⟨hW, cell_below hW z5⟩ : Below w5.heap.size w5 W ∧ W.cell? ⟨ag, j, none⟩ = some (.slice dA ln dc)))
              clear hss hsl
              go_region_held3 (fun w' => Below w5.heap.size w5 w' ∧ w'.cell? ⟨ag, j, none⟩ = some (.slice dA ln dc)) (exact HX5.out _ (by (repeat' (first | with_reducible exact Below.refl _ _ | with_reducible assumption | with_reducible apply bdrew | with_reducible apply bdrewN | with_reducible apply balloc | with_reducible refine bset ?_ (Nat.le_refl _))))) (first
                | (go_at_call 13; refine (HSA.out _ _ _ _ _ hb8 HO1.out HO2.out).mono ?_; rintro e w9 ⟨rfl, hb9'⟩; have hb9 : Below w5.heap.size w5 w9 := hb8.trans (hb9'.mono hb8.size); clear hb9')
                | (have _h := HO1.out; go_at_call 14; refine (HS2.out _ hb7).mono ?_; rintro e w8 ⟨v8, rfl, ho8, hb8'⟩; have hb8 : Below w5.heap.size w5 w8 := hb7.trans (hb8'.mono hb7.size); have HO1 := Aside0.mk (own_below HO1.out hb8'); have HO2 := Aside0.mk ho8; clear ho8 hb8')
                | (go_at_call 14; refine (HS1.out _ (by (repeat' (first | with_reducible exact Below.refl _ _ | with_reducible assumption | with_reducible apply bdrew | with_reducible apply bdrewN | with_reducible apply balloc | with_reducible refine bset ?_ (Nat.le_refl _))))).mono ?_; rintro e w7 ⟨v7, rfl, ho7, hb7'⟩; have hb7 : Below w5.heap.size w5 w7 := (bdrew (Below.refl _ w5)).trans hb7'; have HO1 := Aside0.mk ho7; clear ho7 hb7')
                | fail)
              all_goals
                rename_i hHeld
                have H9 := Aside0.mk hb9
                clear hb9 hHeld
                have hB9 : Below wr.heap.size wr w9 := H5.out.2.2.2.2.trans (H9.out.mono H5.out.2.2.2.2.size)
                have HB9 := Aside0.mk hB9
                clear hB9 hcut5
                go_wp2_with fail
                go_roundw
                case rel => exact ⟨j + 1, by go_num, by omega, ⟨HI.out.1.below HB9.out, HI.out.2.1.below HB9.out, HI.out.2.2.trans (HB9.out.mono HI.out.2.2.size)⟩⟩
                case measure => simp [intOf]; omega
          · obtain rfl : j = nd := by omega
            have g1 : decide (j < j) = false := decide_eq_false hlt
            have g1' : decide ((j : Int) < (j : Int)) = false := decide_eq_false (by omega)
            go_wp2_with (first
              | (go_at_call 5; refine (HAL.out _).mono ?_; rintro e w6 ⟨rfl, hb6⟩)
              | fail)
            go_ret
            exact ⟨rfl, HI.out.2.2.trans (hb6.mono HI.out.2.2.size)⟩
end Go.Proofs.YtnmiipcoojijiaaDoor.Top
