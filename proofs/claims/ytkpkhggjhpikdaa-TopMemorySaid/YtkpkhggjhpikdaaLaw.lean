/-
  The law's walk: TopMemory answers true; conditions: those that each theorem states.
-/
import Derived.Test.YtkpkhggjhpikdaaHeld
namespace Go.Proofs.Ytkpkhggjhpikdaa.Top
set_option linter.unusedSimpArgs false
set_option linter.unusedVariables false
open Go.RowKit Go.Proofs.YtkpkhggjhpikdaaW.PrintWords Go.Proofs.YtkpkhggjhpikdaaW.PrintLast Go.Proofs.YtkpkhggjhpikdaaW.PrintMore Go.Proofs.Ytkpkhggjhpikdaa.Plain Go.Proofs.Ytkpkhggjhpikdaa.KFns Go.Proofs.Ytkpkhggjhpikdaa.Fns
theorem rd_fact {l : List Lib.S36} {j : Nat} (hj : j < l.length) : Lib.rd_T36 l (j : Int) = l[j] := by
  unfold Lib.rd_T36
  rw [Int.toNat_natCast, List.getD_eq_getElem?_getD, List.getElem?_eq_getElem hj]
  rfl
/-- A fact's cells, in a world that keeps what was there. -/
theorem fact_at {w wr : World} {A : Option Addr} {l : List Lib.S36} (hA : RdF w A l) (hB : Below w.heap.size w wr) {j : Nat} (hj : j < l.length) :
    ∃ (ad : Addr) (A0 : Option Addr) (c0 : Nat), A = some ad ∧ wr.cell? (ad.add (j * 3)) = some (.slice A0 l[j].f0.length c0) ∧ wr.cell? ⟨(ad.add (j * 3)).block, (ad.add (j * 3)).off + 1, none⟩ = some (.int .i64 l[j].f1) ∧
      wr.cell? ⟨(ad.add (j * 3)).block, (ad.add (j * 3)).off + 2, none⟩ = some (.int .i64 l[j].f2) ∧ l[j].f0.length ≤ c0 ∧ RdS wr A0 l[j].f0 := by
  obtain ⟨ad, A0, c0, h0, h1, h2, h3, h4, h5⟩ := Lib.at_T36 (Kd.C_below hA hB) (j : Int) (by omega) (by omega)
  rw [rd_fact hj] at *
  rw [Int.toNat_natCast] at *
  exact ⟨ad, A0, c0, h0, h1, h2, h3, h4, h5⟩
theorem tower (z : Int) : ∃ h : Nat, 1 ≤ h ∧ h ≤ 8 ∧ wrap64 (1 + wrap64 (bits .and .u8 z 7)) = (h : Int) := by
  have e : bits .and .u8 z 7 = (((BitVec.ofInt 8 z) &&& (BitVec.ofInt 8 7)).toNat : Int) := by
    show IntKind.u8.wrap ((((BitVec.ofInt 8 z) &&& (BitVec.ofInt 8 7)).toNat : Nat) : Int) = _
    have := ((BitVec.ofInt 8 z) &&& (BitVec.ofInt 8 7)).isLt
    rw [IntWalk.u8_in _ (by omega)]
  have h7 : ((BitVec.ofInt 8 z) &&& (BitVec.ofInt 8 7)).toNat ≤ 7 := by
    rw [BitVec.toNat_and]
    exact Nat.and_le_right
  rw [e]
  generalize ((BitVec.ofInt 8 z) &&& (BitVec.ofInt 8 7)).toNat = n at h7
  exact ⟨n + 1, by omega, by omega, by rw [w64 (x := (n : Int)) (by omega) (by omega), w64 (by omega) (by omega)]; omega⟩
theorem kb_pos (x : Lib.S36) : 0 < (kb x.f0 x.f1 0).length := by
  unfold kb
  rw [List.length_append, List.length_append, numb_length, List.length_singleton]
  omega
set_option maxRecDepth 100000 in
set_option maxHeartbeats 4000000 in
theorem law_walk {w : World} {A B : Option Addr} {c d : Nat} {l : List Lib.S36} {tw : List Int} (hA : RdF w A l) (hc : l.length ≤ c) (hB : RdB w B tw) (hd : tw.length ≤ d) (hb : Byt tw) (hv : ∀ x ∈ l, -9223372036854775808 ≤ x.f2 ∧ x.f2 < 9223372036854775808) :
    Calls Try.prog 3 #[.slice A l.length c, .slice B tw.length d] w fun e w' => e = .returned (.bool true) ∧ Below w.heap.size w w' := by
  obtain ⟨r, hr, hmany⟩ := few_c hA hc
  have HA := Aside0.mk hA
  have HB := Aside0.mk hB
  have HY := Aside0.mk hb
  have HV := Aside0.mk hv
  clear hA hB hb hv
  go_enter Try.func3, Try.ntmps3
  cases r with
  | true =>
    go_wp2_with (first
      | (refine hmany.mono ?_; rintro e w1 ⟨rfl, hb1⟩)
      | (refine (alive_c _).mono ?_; rintro e w2 ⟨rfl, hb2⟩))
    go_ret
    exact ⟨rfl, hb1.trans (hb2.mono hb1.size)⟩
  | false =>
    have hl := hr rfl
    clear hr
    go_wp2_with (first
      | (refine hmany.mono ?_; rintro e w1 ⟨rfl, hb1⟩)
      | (refine (skip_new _).mono ?_; rintro e w2 ⟨rfl, hsk, hb2⟩; unfold ptr)
      | (refine (bloom_new 64 4 (by omega) (by omega) (by omega) (by omega)).mono ?_; rintro e w4 ⟨F, g, rfl, hfl, hb4⟩))
    have hlt1 : w1.heap.size < w2.heap.size := by
      obtain ⟨cs, z, h, _⟩ := (hsk 0).hd
      exact blk_lt h
    have hlg := blk_lt hfl.gb
    have hlF := blk_lt hfl.fb
    have hFb := hfl.Fb
    have hgb := hfl.gB
    have hH0 : Hld w1 l w4.heap.size F g 0 w4 [] (List.replicate 64 0) := ⟨(hsk _).below hb4, rfl, (fun _ h => by cases h), Nat.le_refl _, ⟨hfl.fb, hfl.gb, by omega, by omega⟩, List.length_replicate, (fun n hn => by rw [List.mem_replicate] at hn; omega), (fun _ h => by cases h), (fun _ h => by cases h), hb2.trans (hb4.mono hb2.size), hlF, hlg, by omega, Nat.le_refl _⟩
    have HA1 := Aside0.mk (Kd.C_below HA.out hb1)
    have HB1 := Aside0.mk (HB.out.below hb1)
    clear hsk hfl hmany HA HB
    generalize w4.heap.size = base at hH0
    go_loopw [8] (fun i wr => ∃ (j : Nat) (ns : List Nd) (bl : List Int), j ≤ l.length ∧ i = .int .i64 j ∧ Hld w1 l base F g j wr ns bl) (fun i _ => l.length - (intOf i).toNat)
    case atStart => exact ⟨0, [], _, by omega, rfl, hH0⟩
    case round =>
      clear hH0
      obtain ⟨j, ns, bl, hj, rfl, hH⟩ := hrel
      by_cases hlt : j < l.length
      · have t1 : decide (j < l.length) = true := decide_eq_true hlt
        obtain ⟨ad, A0, c0, rfl, x0, x1, x2, hc0, hS⟩ := fact_at HA1.out hH.be hlt
        generalize hx : l[j] = x at *
        have hSd : RdS wr.drew A0 x.f0 := hS.below (below_drew (Below.refl _ _))
        have hH1 := hH.below (below_drew (Below.refl _ _))
        clear hS hH
        by_cases hok : okf x = true
        · go_wp2_with fail
          have hwr := write_good hSd hc0 hok
          obtain ⟨k, hkk⟩ : ∃ k, kf x = k := ⟨_, rfl⟩
          have hk1 : k.length ≤ 150 := by rw [← hkk]; exact kb_length hok
          have hk0 : 0 < k.length := by rw [← hkk]; exact kb_pos x
          have hkb : Byt k := by rw [← hkk]; exact kb_byt hok
          rw [show kb x.f0 x.f1 0 = k from hkk] at hwr
          go_region_with (go_at_call 8; refine hwr.mono ?_; rintro e w5 ⟨kv, rfl, hown, hb5⟩; obtain ⟨Ak, ck, rfl, hrk, hck⟩ := own_rdb hown; obtain ⟨ak, rfl⟩ := hrk.some hk0)
          all_goals
            have hH5 := hH1.below hb5
            obtain ⟨ad', A1, c1, hadd, y0, y1, y2, hc1, hS5⟩ := fact_at HA1.out hH5.be hlt
            obtain rfl : ad = ad' := Option.some.inj hadd
            rw [hx] at y2
            have hvx := HV.out x (by rw [← hx]; exact List.getElem_mem _)
            have hHle := hH5.le
            have hlo := hH5.lo
            clear hSd hH1 x0 x1 x2 y0 y1 hS5 hwr
            by_cases htj : j < tw.length
            · have t2 : decide (j < tw.length) = true := decide_eq_true htj
              obtain ⟨bd, rfl, hbc⟩ := Kd.at_int (HB1.out.below hH5.be) (j : Int) (by omega) (by omega)
              rw [Int.toNat_natCast] at hbc
              obtain ⟨h, hh1, hh2, hh⟩ := tower (rd tw j)
              go_wp2_with (first
                | (go_at_call 10; refine (one_c _ _).mono ?_; rintro e w6 ⟨rfl, hb6⟩; have hH6 := hH5.below hb6
                   have hput := put_c (w := w6) (base := base) (L := w1.heap.size) (h := h) (v := x.f2) (k := k) (ns := ns) hH6.lo.2.2.2 hH6.sk (hrk.below hb6) hck hkb hk0 (by omega) hh1 hh2 (by omega) hvx j (by omega) hH6.fw
                   unfold entV ptr at hput
                   unfold Ag.v)
                | (go_at_call 9; refine hput.mono ?_; rintro e w7 hPT; obtain ⟨ns', rfl, hP7, hgs⟩ := hH6.put (x := x) (by omega) (by rw [hkk]; exact hPT)
                   have hadd := badd_c (w := w7) hP7.fl (own_read (own_gs (own_below hown hb6) hgs)) (by omega) hkb (by rw [hP7.bn]; omega) (by rw [hP7.bn]; omega) (by omega) (by omega) (c := ck)
                   unfold ptr at hadd)
                | (go_at_call 11; refine hadd.mono ?_; rintro e w8 ⟨rfl, hfl8, hbut⟩; have hH8 := hP7.add hlt hx hok (by rw [hkk]; exact hfl8) hbut))
              go_roundw
              case rel => exact ⟨j + 1, ns', _, by omega, by go_num, hH8⟩
              case measure => simp [intOf]; omega
            · have t2 : decide (j < tw.length) = false := decide_eq_false htj
              go_wp2_with (first
                | (go_at_call 10; refine (one_c _ _).mono ?_; rintro e w6 ⟨rfl, hb6⟩; have hH6 := hH5.below hb6
                   have hput := put_c (w := w6) (base := base) (L := w1.heap.size) (h := 1) (v := x.f2) (k := k) (ns := ns) hH6.lo.2.2.2 hH6.sk (hrk.below hb6) hck hkb hk0 (by omega) (by omega) (by omega) (by omega) hvx j (by omega) hH6.fw
                   rw [show ((1 : Nat) : Int) = 1 from rfl] at hput
                   unfold entV ptr at hput
                   unfold Ag.v)
                | (go_at_call 9; refine hput.mono ?_; rintro e w7 hPT; obtain ⟨ns', rfl, hP7, hgs⟩ := hH6.put (x := x) (by omega) (by rw [hkk]; exact hPT)
                   have hadd := badd_c (w := w7) hP7.fl (own_read (own_gs (own_below hown hb6) hgs)) (by omega) hkb (by rw [hP7.bn]; omega) (by rw [hP7.bn]; omega) (by omega) (by omega) (c := ck)
                   unfold ptr at hadd)
                | (go_at_call 11; refine hadd.mono ?_; rintro e w8 ⟨rfl, hfl8, hbut⟩; have hH8 := hP7.add hlt hx hok (by rw [hkk]; exact hfl8) hbut))
              go_roundw
              case rel => exact ⟨j + 1, ns', _, by omega, by go_num, hH8⟩
              case measure => simp [intOf]; omega
        · have hok' : rightB x.f0 x.f1 0 = false := Bool.eq_false_iff.2 hok
          go_wp2_with fail
          go_region_with (go_at_call 8; refine (write_bad hSd hc0 hok').mono ?_; rintro e w5 ⟨kv, rfl, hb5⟩)
          all_goals
            have hH5 := hH1.below hb5
            clear hSd hH1 x0 x1
            by_cases htj : j < tw.length
            · have t2 : decide (j < tw.length) = true := decide_eq_true htj
              obtain ⟨bd, rfl, hbc⟩ := Kd.at_int (HB1.out.below hH5.be) (j : Int) (by omega) (by omega)
              rw [Int.toNat_natCast] at hbc
              go_wp2_with (first | (refine (alive_c _).mono ?_; rintro e w8 ⟨rfl, hb8⟩))
              go_ret
              exact ⟨rfl, hb1.trans ((hH5.be.trans (hb8.mono hH5.be.size)).mono hb1.size)⟩
            · have t2 : decide (j < tw.length) = false := decide_eq_false htj
              go_wp2_with (first | (refine (alive_c _).mono ?_; rintro e w8 ⟨rfl, hb8⟩))
              go_ret
              exact ⟨rfl, hb1.trans ((hH5.be.trans (hb8.mono hH5.be.size)).mono hb1.size)⟩
      · obtain rfl : j = l.length := by omega
        have t1 : decide (l.length < l.length) = false := decide_eq_false (by omega)
        have hco := hH.co
        have hmy := hH.my
        have hokl := hH.ok
        rw [List.take_length] at hco hmy hokl
        have hbn := hH.bn
        have hby := hH.by'
        have hle := hH.le
        have hall := all_c hH.sk (by omega)
        unfold ptr at hall
        have hbe := hH.be
        have hfl := hH.fl
        clear hH
        go_wp2_with (first | (go_at_call 12; refine hall.mono ?_; rintro e w3 ⟨v, xs, rfl, hown, ⟨hcx, hent⟩, hb3⟩; obtain ⟨Av, cv, rfl, _⟩ := row_slice hown))
        have hS0 : Seen w1 F g wr.heap.size _ xs bl w3 := ⟨hown, hent, hfl.below hb3, hbe.trans (hb3.mono hbe.size)⟩
        have hcon : xs.map (fun x => (x.k, x.a)) = conF l := hcx.trans hco
        clear hown hent hall hcx hco hfl hbe hb3
        generalize wr.heap.size = n₀ at hS0
        have hxl : xs.length ≤ 60 := by
          have h1 := (con_ok l).len
          rw [← hcon, List.length_map] at h1
          omega
        go_loopw [13] (fun i wr => ∃ j : Nat, j ≤ xs.length ∧ i = .int .i64 j ∧ Seen w1 F g n₀ (.slice Av xs.length cv) xs bl wr) (fun i _ => xs.length - (intOf i).toNat)
        case atStart => exact ⟨0, by omega, rfl, hS0⟩
        case round =>
          clear hS0
          obtain ⟨j, hj, rfl, hS⟩ := hrel
          by_cases hlt : j < xs.length
          · have t1 : decide (j < xs.length) = true := decide_eq_true hlt
            obtain ⟨b, rfl, x0, x1, x2, x3, x4, x5, x6, hrx, hcx⟩ := hS.at rfl hlt
            obtain ⟨hag, y, hy, hky⟩ := ent_fact hcon hlt
            have hvn : valsF l xs[j].k ≠ [] := by rw [← hky]; exact vals_some hy
            generalize hxj : xs[j] = x at *
            obtain ⟨xA, xc, xk, xa⟩ := x
            simp only at x0 x1 x2 x3 x4 x5 x6 hrx hcx hag hky hvn
            have hoky := hokl y hy
            have hkb : Byt xk := by rw [← hky]; exact kb_byt hoky
            have hk1 : xk.length ≤ 150 := by rw [← hky]; exact kb_length hoky
            have hread := read_good (w := wr) (A := xA) (c := xc) (l := y.f0) (z := y.f1) (g := 0) hoky (by rw [show kb y.f0 y.f1 0 = xk from hky]; exact hrx) (by rw [show kb y.f0 y.f1 0 = xk from hky]; exact hcx)
            rw [show kb y.f0 y.f1 0 = xk from hky] at hread
            unfold keyV at hread
            go_wp2_with fail
            refine hread.mono ?_
            rintro e w5 ⟨B5, d5, rfl, hS5, hd5, hb5⟩
            have hC6 : Cur w1 F g n₀ (.slice (some ⟨b, 0, none⟩) xs.length cv) xs bl w5.heap.size B5 d5 y (w5.alloc (.cells #[.slice B5 y.f0.length d5, .int .i64 y.f1, .int .i64 0] 38)) := by
              have hb := (Below.refl w5.heap.size w5).alloc (Nat.le_refl _) (.cells #[.slice B5 y.f0.length d5, .int .i64 y.f1, .int .i64 0] 38)
              exact ⟨(hS.below hb5).below hb, al_new rfl, hS5.below hb⟩
            clear hS hread x0 x1 x2 x3 x4 x5 x6 hrx hS5 hb5 hcx
            obtain ⟨b', hbb, x0, x1, x2, x3, x4, x5, x6, hrx, hcx⟩ := hC6.sn.at rfl hlt
            cases hbb
            rw [hxj] at x0 hcx hrx
            simp only at x0 hcx hrx
            have hmay := bmay_c (base := w1.heap.size) (F := F) (g := g) (hs := 4) (c := xc) (A := xA) (k := xk) (bl := bl) hC6.sn.fl hrx (by omega) hkb (by omega) (by omega) (by omega) (by omega)
            have hm1 : (plF (moreF 0 xk) (stepF xk) (8 * bl.length) 4).all (hasB bl) = true := by
              have := hmy y hy
              rw [hky] at this
              exact this
            rw [hm1] at hmay
            unfold ptr at hmay
            go_wp2_with fail
            generalize w5.alloc (.cells #[.slice B5 y.f0.length d5, .int .i64 y.f1, .int .i64 0] 38) = w6 at *
            generalize w5.heap.size = q at *
            refine hmay.mono ?_
            rintro e w7 ⟨rfl, hb7⟩
            replace hC6 := hC6.below hb7
            clear hmay hm1 x0 x1 x2 x3 x4 x5 x6 hrx hcx
            rcases Nat.eq_zero_or_pos j with hj0 | hj0
            focus
              have t2 : decide (0 < j) = false := decide_eq_false (by omega)
              clear hj0
              go_wp2_with fail
              have hC9 := hC6
              clear hC6 t2
              generalize w7 = w9 at *
            rotate_left
            focus
              have t2 : decide (0 < j) = true := decide_eq_true (by omega)
              obtain ⟨z, pA, pc, hz, hlz, hrp, hcp, p0⟩ := hC6.sn.prev hcon rfl hlt hj0
              have hokz := hokl z hz
              rw [hxj] at hlz
              simp only at hlz
              have hlz2 : lessB z.f0 z.f1 0 y.f0 y.f1 0 = true := by
                rw [← kb_lts hokz hoky, show kb y.f0 y.f1 0 = xk from hky]
                exact hlz
              have hread2 := read_good (w := w7) (A := pA) (c := pc) (l := z.f0) (z := z.f1) (g := 0) hokz hrp hcp
              obtain ⟨pk, hpk⟩ : ∃ pk, kf z = pk := ⟨_, rfl⟩
              rw [show kb z.f0 z.f1 0 = pk from hpk] at hread2
              rw [hpk] at hlz hrp hcp p0
              unfold keyV at hread2
              go_wp2_with fail
              refine hread2.mono ?_
              rintro e w8 ⟨B8, d8, rfl, hS8, hd8, hb8⟩
              have hbn8 := (Below.refl w8.heap.size w8).alloc (Nat.le_refl _) (.cells #[.slice B8 z.f0.length d8, .int .i64 z.f1, .int .i64 0] 38)
              have hC8 := (hC6.below hb8).below hbn8
              have hS8' := hS8.below hbn8
              obtain ⟨q0, q1, q2⟩ := hC8.cells
              have hless := less_good (z := z.f1) (g := 0) (z' := y.f1) (g' := 0) hS8' hd8 hC8.rs hd5 (fits_len hokz) (fits_len hoky)
              rw [hlz2] at hless
              unfold keyV at hless
              clear hread2 p0 hrp hC6 hS8
              go_wp2_with fail
              refine hless.mono ?_
              rintro e w9 ⟨rfl, hb9⟩
              have hC9 := hC8.below hb9
              clear hless q0 q1 q2 hC8 hS8'
              go_wp2_with fail
              clear t2 hb9 hb8 hbn8 hb7
            all_goals
              go_loopw [18, 19] (fun v i wr => ∃ (n : Nat) (vA : Option Addr) (vc : Nat), n ≤ l.length ∧ i = .int .i64 n ∧ v = .slice vA (valsF (l.take n) xk).length vc ∧ wr.ownsRow w9.heap.size 2 1 v (valsF (l.take n) xk).length (nums .i64 (valsF (l.take n) xk)) ∧ Below w9.heap.size w9 wr) (fun v i _ => l.length - (intOf i).toNat)
              case atStart => exact ⟨0, none, 0, by omega, rfl, rfl, World.ownsRow_nil _ _ _ _, Below.refl _ _⟩
              case round =>
                rename_i W _ _ _
                obtain ⟨n, vA, vc, hn, rfl, rfl, hvo, hBn⟩ := hrel
                by_cases hnt : n < l.length
                · have t3 : decide (n < l.length) = true := decide_eq_true hnt
                  have hCw := hC9.below hBn
                  obtain ⟨ad, A0, c0, rfl, y0, y1, y2, hc0, hSf⟩ := fact_at HA1.out hCw.sn.be hnt
                  have hokf := hokl l[n] (List.getElem_mem _)
                  have hno := vals_no (k := xk) hnt
                  have hyes := vals_yes (k := xk) hnt
                  have hvl : (valsF (l.take n) xk).length ≤ 60 := by
                    have h1 := vals_len (l.take n) xk
                    have h2 : (l.take n).length ≤ n := by rw [List.length_take]; omega
                    omega
                  generalize hfn : l[n] = f at *
                  obtain ⟨fk, hfk⟩ : ∃ fk, kf f = fk := ⟨_, rfl⟩
                  have hl1 : lessB f.f0 f.f1 0 y.f0 y.f1 0 = lts fk xk := by rw [less_fact hokf hoky, hfk, hky]
                  have hl2 : lessB y.f0 y.f1 0 f.f0 f.f1 0 = lts xk fk := by rw [less_fact hoky hokf, hfk, hky]
                  rw [hfk] at hno hyes
                  have hBd := below_drew ((Below.refl wr.heap.size wr).alloc (Nat.le_refl _) (.cells #[.slice A0 f.f0.length c0, .int .i64 f.f1, .int .i64 0] 38))
                  have hCd := hCw.below hBd
                  have hSd := hSf.below hBd
                  have hBe := hBn.trans (hBd.mono hBn.size)
                  have hvd := own_below hvo hBd
                  clear hCw hSf hvo hBd
                  obtain ⟨q0, q1, q2⟩ := hCd.cells
                  have hless := less_good (z := f.f1) (g := 0) (z' := y.f1) (g' := 0) hSd hc0 hCd.rs hd5 (fits_len hokf) (fits_len hoky)
                  rw [hl1] at hless
                  unfold keyV at hless
                  generalize hvs : valsF (l.take n) xk = vs at *
                  have hN : (wr.alloc (.cells #[.slice A0 f.f0.length c0, .int .i64 f.f1, .int .i64 0] 38)).drew.heap[wr.heap.size]? = some (.cells #[.slice A0 f.f0.length c0, .int .i64 f.f1, .int .i64 0] 38 (0, 0)) := al_new rfl
                  have n0 := World.new_ne wr _ y0
                  have n1 := World.new_ne wr _ y1
                  rcases h1 : lts fk xk
                  · rw [h1] at hless
                    go_wp2_with fail
                    go_region_held3 (fun w' => w'.cell? (ad.add (n * 3)) = some (.slice A0 f.f0.length c0) ∧ w'.cell? ⟨(ad.add (n * 3)).block, (ad.add (n * 3)).off + 1, none⟩ = some (.int .i64 f.f1)) (go_keep) (fail)
                    go_wp2_with fail
                    refine hless.mono ?_
                    rintro e w10 ⟨rfl, hb10⟩
                    replace hCd := hCd.below hb10
                    replace hSd := hSd.below hb10
                    replace hvd := own_below hvd hb10
                    replace hBe := hBe.trans (hb10.mono hBe.size)
                    have hN10 : w10.heap[wr.heap.size]? = some (.cells #[.slice A0 f.f0.length c0, .int .i64 f.f1, .int .i64 0] 38 (0, 0)) := (hb10.block _ (blk_lt hN)).trans hN
                    have r0 : w10.cell? ⟨wr.heap.size, 0, none⟩ = some (.slice A0 f.f0.length c0) := (blk_cell hN10 0).trans rfl
                    have r1 : w10.cell? ⟨wr.heap.size, 1, none⟩ = some (.int .i64 f.f1) := (blk_cell hN10 1).trans rfl
                    have r2 : w10.cell? ⟨wr.heap.size, 2, none⟩ = some (.int .i64 0) := (blk_cell hN10 2).trans rfl
                    clear hless q0 q1 q2 y0 y1 n0 n1 hN
                    obtain ⟨q0, q1, q2⟩ := hCd.cells
                    have hless := less_good (z := y.f1) (g := 0) (z' := f.f1) (g' := 0) hCd.rs hd5 hSd hc0 (fits_len hoky) (fits_len hokf)
                    rw [hl2] at hless
                    unfold keyV at hless
                    rcases h2 : lts xk fk
                    · have he := lts_total _ _ h1 h2
                      rw [h2] at hless
                      go_wp2_with fail
                      refine hless.mono ?_
                      rintro e w11 ⟨rfl, hb11⟩
                      replace hvd := own_below hvd hb11
                      replace hBe := hBe.trans (hb11.mono hBe.size)
                      obtain ⟨ad', A1, c1, hadd, y0, y1, z2, hc1, hS11⟩ := fact_at HA1.out (hCd.below hb11).sn.be hnt
                      cases hadd
                      rw [hfn] at z2
                      clear hless q0 q1 q2 r0 r1 r2 y0 y1 y2 hS11 hSd hCd hN10
                      obtain ⟨i0, hi, hzz⟩ := Option.map_eq_some_iff.1 infoI
                      simp only [Prod.mk.injEq] at hzz
                      obtain ⟨hz0, hz1, hz2⟩ := hzz
                      have hsz := hBe.size
                      go_wp2_with (at_builtin; refine wpList_append_own_at _ rfl _ _ 55 rfl w9.heap.size 2 i0 _ 1 8 Try.underlying55 hi hz0 hz1 hz2 rfl (by decide) _ _ _ rfl (hvd.alloc _) ⟨w11.heap.size, 0, none⟩ 1 1 [.int .i64 f.f2] rfl rfl (cell_one_new _ _ _) (fun u hu => by (simp at hu; subst hu; rfl)) (by simp only [maxLen]; omega) (by omega) (by simp [World.size_alloc]; omega) ?_; intro v' w12 hown' hg12 hnil hat; obtain ⟨vA', vc', rfl, _⟩ := row_slice hown')
                      have hB12 := (hBe.alloc hBe.size (.cells #[.int .i64 f.f2] 2)).grown hg12 (by simp; omega) (fun k hk => (hvd.lt k hk).1)
                      go_roundw
                      case rel =>
                        refine ⟨n + 1, vA', vc', by omega, by go_num, ?_, ?_, hB12⟩
                        · rw [hyes he, List.length_append, List.length_singleton]
                        · rw [hyes he, List.length_append, nums_append]
                          exact hown'
                      case measure => simp [intOf]; omega
                    · have hne : fk ≠ xk := fun e => by rw [e, lts_irrefl] at h2; cases h2
                      rw [h2] at hless
                      go_wp2_with fail
                      refine hless.mono ?_
                      rintro e w11 ⟨rfl, hb11⟩
                      replace hvd := own_below hvd hb11
                      replace hBe := hBe.trans (hb11.mono hBe.size)
                      clear hless q0 q1 q2 r0 r1 r2 y2 hSd hCd hN10
                      go_wp2
                      go_roundw
                      case rel =>
                        refine ⟨n + 1, vA, vc, by omega, by go_num, ?_, ?_, hBe⟩
                        · rw [hno hne]
                        · rw [hno hne]
                          exact hvd
                      case measure => simp [intOf]; omega
                  · have hne : fk ≠ xk := fun e => by rw [e, lts_irrefl] at h1; cases h1
                    rw [h1] at hless
                    go_wp2_with fail
                    go_region_held3 (fun w' => w'.cell? (ad.add (n * 3)) = some (.slice A0 f.f0.length c0) ∧ w'.cell? ⟨(ad.add (n * 3)).block, (ad.add (n * 3)).off + 1, none⟩ = some (.int .i64 f.f1)) (go_keep) (fail)
                    go_wp2_with fail
                    refine hless.mono ?_
                    rintro e w10 ⟨rfl, hb10⟩
                    replace hvd := own_below hvd hb10
                    replace hBe := hBe.trans (hb10.mono hBe.size)
                    clear hless q0 q1 q2 y0 y1 y2 n0 n1 hCd hSd hN
                    go_wp2
                    go_roundw
                    case rel =>
                      refine ⟨n + 1, vA, vc, by omega, by go_num, ?_, ?_, hBe⟩
                      · rw [hno hne]
                      · rw [hno hne]
                        exact hvd
                    case measure => simp [intOf]; omega
                · obtain rfl : n = l.length := by omega
                  rw [List.take_length] at hvo
                  have t3 : decide (l.length < l.length) = false := decide_eq_false (by omega)
                  have hCw := hC9.below hBn
                  obtain ⟨b', hbb, _, y1, y2, y3, y4, y5, y6, _, _⟩ := hCw.sn.at rfl hlt
                  cases hbb
                  rw [hxj] at y1 y2 y3 y4 y5 y6
                  have hAs0 : AgS b j xa wr := ⟨y1, y2, y3, y4, y5, y6⟩
                  have hAs : AgS b j xa wr.drew := hAs0.below (below_drew (Below.refl _ _))
                  have hCd := hCw.below (below_drew (Below.refl _ _))
                  have hvl : (valsF l xk).length ≤ 60 := by
                    have h1 := vals_len l xk
                    omega
                  have hvv : ∀ v ∈ valsF l xk, -9223372036854775808 ≤ v ∧ v < 9223372036854775808 := fun v hv => by
                    unfold valsF at hv
                    obtain ⟨f, hf, rfl⟩ := List.mem_map.1 hv
                    exact HV.out f ((List.mem_filter.1 hf).1)
                  have hrd := own_i64 (own_below hvo (below_drew (Below.refl _ _)))
                  have hmany := many_c (c := vc) hrd (by omega) hvv
                  rw [← hag] at hmany
                  unfold Ag.v at hmany
                  rw [List.take_length]
                  have t4 : (((valsF l xk).length : Int) == 0) = false := by
                    rw [beq_eq_false_iff_ne]
                    intro e
                    exact hvn (List.eq_nil_of_length_eq_zero (by omega))
                  have i1 : (0 : Int) ≤ (j : Int) := by omega
                  have i2 : (j : Int) < (xs.length : Int) := by omega
                  clear hag hvv hvn
                  generalize valsF l xk = vs at *
                  go_wp2_with fail
                  clear y1 y2 y3 y4 y5 y6 hAs0
                  have hAs := hAs
                  go_region_held3 (fun w' => w'.cell? ⟨b, j * 7 + 1, none⟩ = some (.int .u64 xa.c) ∧ w'.cell? ⟨b, j * 7 + 1 + 1, none⟩ = some (.bool xa.o) ∧ w'.cell? ⟨b, j * 7 + 1 + 2, none⟩ = some (.int .i64 xa.hi) ∧ w'.cell? ⟨b, j * 7 + 1 + 3, none⟩ = some (.int .u64 xa.lo) ∧ w'.cell? ⟨b, j * 7 + 1 + 4, none⟩ = some (.int .i64 xa.mn) ∧ w'.cell? ⟨b, j * 7 + 1 + 5, none⟩ = some (.int .i64 xa.mx)) (exact AgS.s (by assumption)) (first | (go_at_call 16; refine hmany.mono ?_; rintro e w10 ⟨rfl, hb10⟩; have hAs10 := hAs.below hb10; have hC10 := hCd.below hb10))
                  all_goals
                    clear hmany hAs hrd
                    go_wp2_with fail
                    go_roundw
                    case rel => exact ⟨j + 1, by omega, by go_num, hC10.sn⟩
                    case measure => simp [intOf]; omega
          · obtain rfl : j = xs.length := by omega
            have t1 : decide (xs.length < xs.length) = false := decide_eq_false (by omega)
            have hxl2 : xs.length ≤ l.length := by
              have h1 := (con_ok l).len
              rwa [← hcon, List.length_map] at h1
            have t2 : decide (xs.length ≤ l.length) = true := decide_eq_true hxl2
            have t3 : decide (0 < xs.length) = decide (0 < l.length) := by
              by_cases h0 : 0 < l.length
              · rw [decide_eq_true h0]
                apply decide_eq_true
                have hne := con_some (l := l) (fun e => by rw [e] at h0; simp at h0)
                rw [← hcon] at hne
                rcases Nat.eq_zero_or_pos xs.length with h | h
                · rw [List.eq_nil_of_length_eq_zero h] at hne
                  simp at hne
                · exact h
              · rw [decide_eq_false h0]
                exact decide_eq_false (by omega)
            go_wp2_with (first | (refine (alive_c _).mono ?_; rintro e w8 ⟨rfl, hb8⟩))
            go_ret
            exact ⟨rfl, hb1.trans ((hS.be.trans (hb8.mono hS.be.size)).mono hb1.size)⟩
end Go.Proofs.Ytkpkhggjhpikdaa.Top
