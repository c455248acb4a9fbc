/-
  fold.at and fold.fits; conditions: those that each theorem states.
-/
import Derived.Test.YtoikaegohkolkaaGG
namespace Go.Proofs.Ytoikaegohkolkaa.Top
set_option linter.unusedSimpArgs false
set_option linter.unusedVariables false
open Go.RowKit Go.Proofs.YtoikaegohkolkaaW.PrintWords Go.Proofs.YtoikaegohkolkaaW.PrintLast Go.Proofs.YtoikaegohkolkaaW.PrintMore Go.Proofs.Ytoikaegohkolkaa.Plain Go.Proofs.Ytoikaegohkolkaa.KFns Go.Proofs.Ytoikaegohkolkaa.Fns
theorem own_down {w : World} {base base' : Nat} {e : TypeId} {size n : Nat} {v : Value} {xs : List Value} (h : w.ownsRow base e size v n xs) (hb : base' ≤ base) : w.ownsRow base' e size v n xs :=
  ⟨h.1, h.2.imp id fun ⟨g, cap, cur, e1, h1, h2⟩ => ⟨g, cap, cur, e1, Nat.le_trans hb h1, h2⟩⟩
set_option maxRecDepth 100000 in
set_option maxHeartbeats 2000000 in
theorem at_c {w : World} {R A : Option Addr} {b o c ck : Nat} {gs : Gr} {keep m : Int} {k : List Int} (hR : gs ≠ [] → R = some ⟨b, o, none⟩) (h : GRow w b o gs) (hg : rightR gs keep = true) (hm : TmOk m) (hk : RdB w A k) (hkc : k.length ≤ ck) (hko : KOk gs k) :
    Calls Try.prog 22 #[rulV R gs.length c keep, .int .i64 m, .slice A k.length ck] w fun e w' => ∃ v, e = .returned (.tuple #[v, .bool (goneG gs keep m (rdK k).2.1)]) ∧ w'.ownsRow w.heap.size 5 1 v (atB gs m k).length (nums .u8 (atB gs m k)) ∧ Below w.heap.size w w' := by
  have hr := rightR_iff hg
  have hI : RuI w R b o c gs keep (w.alloc (.cells #[.slice R gs.length c, .int .i64 keep] 24)) := ⟨(Below.refl _ w).alloc (Nat.le_refl _) _, al_new rfl, h.below ((Below.refl _ w).alloc (Nat.le_refl _) _)⟩
  have HKR := Aside0.mk (kread_c (c := ck) (hk.below hI.be) hkc hko.byt hko.len)
  rw [hko.ok] at HKR
  have hgl : (rdK k).2.2.1.toNat < gs.length := by have := hko.gl; have := hko.g0; omega
  have HRT := Aside0.mk (hko.at_right (m := m) hr)
  have HL2 := Aside0.mk (grF_lt hr.l1 m (rdK k).2.1 hgl)
  have hg0 := hko.g0
  have HZ := Aside0.mk hko.z0
  unfold atB
  generalize hrd : rdK k = r at *
  obtain ⟨l, z, g, s⟩ := r
  simp only at HKR HRT HL2 hg0 HZ ⊢
  obtain ⟨gn, rfl⟩ : ∃ gn : Nat, g = (gn : Int) := ⟨g.toNat, by omega⟩
  rw [Int.toNat_natCast] at HRT HL2 ⊢
  have HI := Aside0.mk hI
  have H0 := Aside0.mk h
  have HG := Aside0.mk hg
  have HM := Aside0.mk hm
  have HR := Aside0.mk hr
  have HHR := Aside0.mk hR
  have hl2 := hr.l2
  clear h hg hr hm hk hko hI hgl hrd hg0 hR
  unfold rulV keyV at *
  go_enter Try.func22, Try.ntmps22
  go_upto_region 2 with (first
    | (go_at_call 42
       refine HKR.out.mono ?_
       rintro e w2 ⟨B, d, rfl, hS2, hld, hb2⟩)
    | fail)
  have hI2 := HI.out.below hb2
  have hA3 := (Below.refl _ w2).alloc (Nat.le_refl _) (.cells #[.slice B l.length d, .int .i64 z, .int .i64 (gn : Int)] 100)
  have hI3 := hI2.below hA3
  have hK3 := al_new (W := w2) (o := .cells #[.slice B l.length d, .int .i64 z, .int .i64 (gn : Int)] 100) rfl
  have hwK : w.heap.size < w2.heap.size := by have := blk_lt hI2.bx; exact this
  have HS2 := Aside0.mk hS2
  obtain ⟨K, hKe⟩ : ∃ K, K = w2.heap.size := ⟨_, rfl⟩
  have HKE := Aside0.mk hKe
  rw [← hKe] at hA3 hK3 hwK ⊢
  clear hS2 hb2 hI2 HI HKR hKe
  generalize w2.alloc (.cells #[.slice B l.length d, .int .i64 z, .int .i64 (gn : Int)] 100) = W3 at *
  obtain ⟨k0, k1⟩ := hI3.c
  have y0 : W3.cell? ⟨K, 1, none⟩ = some (.int .i64 z) := (blk_cell hK3 1).trans rfl
  have HEX := Aside0.mk (gexp_c (c := c) HHR.out hI3.row HG.out HZ.out HM.out)
  have HI3 := Aside0.mk hI3
  have HA3 := Aside0.mk hA3
  have HK3 := Aside0.mk hK3
  unfold rulV at HEX
  clear hI3 hA3 hK3
  go_upto_region 5 with (first
    | (go_at_call 43
       refine HEX.out.mono ?_
       rintro e w4 ⟨rfl, hb4⟩
       have hI4 := HI3.out.below hb4
       have HST := Aside0.mk (gstep_c (c := c) HHR.out hI4.row HG.out HZ.out HM.out)
       unfold rulV at HST
       have hK4 := (hb4.block _ (blk_lt HK3.out)).trans HK3.out
       replace k0 := cell_below hb4 k0
       replace k1 := cell_below hb4 k1
       replace y0 := cell_below hb4 y0
       have HI4 := Aside0.mk hI4
       have HA4 := Aside0.mk (HA3.out.trans (hb4.mono (by have := HA3.out.size; rw [HKE.out]; exact this)))
       have HK4 := Aside0.mk hK4
       clear hI4 hK4 hb4)
    | (go_at_call 44
       refine HST.out.mono ?_
       rintro e w5 ⟨rfl, hb5⟩
       have hK5 := (hb5.block _ (blk_lt HK4.out)).trans HK4.out
       have y1 : w5.cell? ⟨K, 2, none⟩ = some (.int .i64 (gn : Int)) := (blk_cell hK5 2).trans rfl
       have y2 : w5.frozen? ⟨K, 2, none⟩ = false := blk_frozen hK5 2
       have HI5 := Aside0.mk (HI4.out.below hb5)
       have HA5 := Aside0.mk (HA4.out.trans (hb5.mono (by have := HA4.out.size; rw [HKE.out]; exact this)))
       have HK5 := Aside0.mk hK5
       clear hK5 hb5)
    | fail)
  have hmx : (if gn < stp gs m z then ((stp gs m z : Nat) : Int) else (gn : Int)) = ((grF gs m z gn : Nat) : Int) := by unfold grF; split <;> omega
  rw [hmx]
  clear hmx k0 k1 y0 y1 y2 HI3 HA3 HK3 HI4 HA4 HK4 HEX HST
  have hsz := HR.out.s1 _ HL2.out
  obtain ⟨G, hGe⟩ : ∃ G, G = grF gs m z gn := ⟨_, rfl⟩
  obtain ⟨S, hSe⟩ : ∃ S, S = szG gs G := ⟨_, rfl⟩
  have hfe : frF gs m z gn = flo z S := by rw [hSe, hGe]; rfl
  have HGE := Aside0.mk hGe
  have HFE := Aside0.mk hfe
  rw [hfe, ← hGe] at HRT
  rw [← hGe] at HL2 hsz ⊢
  rw [← hSe] at hsz
  have hB6 := HI5.out.be.setCell (p := ⟨K, 2, none⟩) (Nat.le_of_lt hwK) (.int .i64 (G : Int))
  have hA6 := HA5.out.setCell (p := ⟨K, 2, none⟩) (Nat.le_refl _) (.int .i64 (G : Int))
  have hK6 := blk_put HK5.out 2 (.int .i64 (G : Int)) rfl
  have hX6 : (w5.setCell ⟨K, 2, none⟩ (.int .i64 (G : Int))).heap[w.heap.size]? = _ := (Below.heap_setCell _ _ _ _ (by simp only; omega)).trans HI5.out.bx
  generalize w5.setCell ⟨K, 2, none⟩ (.int .i64 (G : Int)) = W6 at *
  obtain rfl := HHR.out (by intro e; have := HR.out.l1; rw [e] at this; simp at this)
  have x0 := ((H0.out.below hB6) G HL2.out).1
  rw [← szG_at HL2.out, ← hSe] at x0
  have k0 : W6.cell? ⟨w.heap.size, 0, none⟩ = some (.slice (some ⟨b, o, none⟩) gs.length c) := (blk_cell hX6 0).trans rfl
  have y1 : W6.cell? ⟨K, 1, none⟩ = some (.int .i64 z) := (blk_cell hK6 1).trans rfl
  have y2 : W6.cell? ⟨K, 2, none⟩ = some (.int .i64 (G : Int)) := (blk_cell hK6 2).trans rfl
  have f1 : W6.frozen? ⟨K, 1, none⟩ = false := blk_frozen hK6 1
  have g1 : (G : Int) < (gs.length : Int) := by have := HL2.out; omega
  have HFL := Aside0.mk (fun (W : World) => floor_c (w := W) HZ.out ⟨hsz.1, hsz.2.1⟩)
  have HB6 := Aside0.mk hB6
  have HK6 := Aside0.mk hK6
  have HA6 := Aside0.mk hA6
  clear hB6 hK6 hX6 hA6 hsz HI5 HA5 HK5 hGe hSe hfe
  go_region_with (first | (go_at_call 45; refine (HFL.out _).mono ?_; rintro e w7 ⟨rfl, rfl⟩) | fail)
  all_goals
    have hK7 := blk_put HK6.out 1 (.int .i64 (flo z S)) rfl
    have hB7 := bdrew (HB6.out.setCell (p := ⟨K, 1, none⟩) (Nat.le_of_lt hwK) (.int .i64 (flo z S)))
    have hA7 := bdrew (HA6.out.setCell (p := ⟨K, 1, none⟩) (Nat.le_refl _) (.int .i64 (flo z S)))
    rw [HKE.out] at hA7
    have hS7 := HS2.out.below hA7
    rw [← HKE.out] at hS7
    have hK8 : (W6.setCell ⟨K, 1, none⟩ (.int .i64 (flo z S))).drew.heap[K]? = _ := hK7
    generalize (W6.setCell ⟨K, 1, none⟩ (.int .i64 (flo z S))).drew = W8 at *
    have z0 : W8.cell? ⟨K, 0, none⟩ = some (.slice B l.length d) := (blk_cell hK8 0).trans rfl
    have z1 : W8.cell? ⟨K, 1, none⟩ = some (.int .i64 (flo z S)) := (blk_cell hK8 1).trans rfl
    have z2 : W8.cell? ⟨K, 2, none⟩ = some (.int .i64 (G : Int)) := (blk_cell hK8 2).trans rfl
    have HKW := Aside0.mk (kwrite_c hS7 hld HRT.out)
    have HB8 := Aside0.mk hB7
    unfold keyV at HKW
    clear hK7 hB7 hA7 hS7 hK8 x0 k0 y1 y2 f1
    go_wp2_with (first | (go_at_call 46; refine HKW.out.mono ?_; rintro e w9 ⟨v, rfl, ho9, hb9⟩) | fail)
    go_ret2
    refine ⟨v, rfl, ?_, HB8.out.trans (hb9.mono HB8.out.size)⟩
    rw [HFE.out, ← HGE.out]
    exact own_down ho9 HB8.out.size
/-- What the test reads. -/
def FitS (n : Nat) (W0 : World) (B0 B1 K b o : Nat) (R : Option Addr) (nn c : Nat) (z g sz : Int) (a : Ag) (W : World) : Prop :=
  Below n W0 W ∧ W.cell? ⟨B0, 0, none⟩ = some (.slice R nn c) ∧ W.cell? ⟨K, 1, none⟩ = some (.int .i64 z) ∧ W.cell? ⟨K, 2, none⟩ = some (.int .i64 g) ∧ W.cell? ⟨b, o, none⟩ = some (.int .i64 sz) ∧
    W.cell? ⟨B1, 1, none⟩ = some (.int .u64 a.c) ∧ W.cell? ⟨B1, 2, none⟩ = some (.bool a.o) ∧ W.cell? ⟨B1, 3, none⟩ = some (.int .i64 a.hi) ∧ W.cell? ⟨B1, 4, none⟩ = some (.int .u64 a.lo) ∧ W.cell? ⟨B1, 5, none⟩ = some (.int .i64 a.mn) ∧ W.cell? ⟨B1, 6, none⟩ = some (.int .i64 a.mx)
theorem FitS.step {n B0 B1 K b o nn c : Nat} {W0 W W1 : World} {R : Option Addr} {z g sz : Int} {a : Ag} (h : FitS n W0 B0 B1 K b o R nn c z g sz a W) (hn : n ≤ W.heap.size) (hb : Below W.heap.size W W1) : FitS n W0 B0 B1 K b o R nn c z g sz a W1 := by
  obtain ⟨h0, h1, h2, h3, h4, h5, h6, h7, h8, h9, h10⟩ := h
  exact ⟨h0.trans (hb.mono hn), cell_below hb h1, cell_below hb h2, cell_below hb h3, cell_below hb h4, cell_below hb h5, cell_below hb h6, cell_below hb h7, cell_below hb h8, cell_below hb h9, cell_below hb h10⟩
set_option maxRecDepth 100000 in
set_option maxHeartbeats 2000000 in
theorem ffits_c {w : World} {R A : Option Addr} {b o c ck : Nat} {gs : Gr} {keep : Int} {k : List Int} {a : Ag} (hR : gs ≠ [] → R = some ⟨b, o, none⟩) (h : GRow w b o gs) (hg : rightR gs keep = true) (hk : RdB w A k) (hkc : k.length ≤ ck) (hb : Byt k) (hkl : k.length ≤ 1000000) :
    Calls Try.prog 69 #[rulV R gs.length c keep, entV A k.length ck a] w fun e w' => e = .returned (.bool (fitsE gs k a)) ∧ Below w.heap.size w w' := by
  have hr := rightR_iff hg
  have hI : RuI w R b o c gs keep (w.alloc (.cells #[.slice R gs.length c, .int .i64 keep] 24)) := ⟨(Below.refl _ w).alloc (Nat.le_refl _) _, al_new rfl, h.below ((Below.refl _ w).alloc (Nat.le_refl _) _)⟩
  have hI1 := hI.below ((Below.refl _ _).alloc (Nat.le_refl _) (.cells #[.slice A k.length ck, .int .u64 a.c, .bool a.o, .int .i64 a.hi, .int .u64 a.lo, .int .i64 a.mn, .int .i64 a.mx] 56))
  have hE1 := al_new (W := w.alloc (.cells #[.slice R gs.length c, .int .i64 keep] 24)) (o := .cells #[.slice A k.length ck, .int .u64 a.c, .bool a.o, .int .i64 a.hi, .int .u64 a.lo, .int .i64 a.mn, .int .i64 a.mx] 56) rfl
  rw [World.size_alloc] at hE1
  have hkr := kread_c (c := ck) (hk.below hI1.be) hkc hb hkl
  have hcs := rdK_err hb hkl
  have hkz := rdK_zero hb hkl
  have hl2 := hr.l2
  have HS := Aside0.mk (fun i hi => hr.s1 i hi)
  obtain rfl := hR (by intro e; have := hr.l1; rw [e] at this; simp at this)
  clear hR h hg hr hI hk
  unfold rulV entV keyV at *
  unfold fitsE
  generalize rdK k = r at *
  obtain ⟨l, z, g, s⟩ := r
  simp only at hkr hcs hkz ⊢
  have HKR := Aside0.mk hkr
  have HI1 := Aside0.mk hI1
  have HE1 := Aside0.mk hE1
  have e0 : (w.alloc (.cells #[.slice (some ⟨b, o, none⟩) gs.length c, .int .i64 keep] 24)).heap.size = w.heap.size + 1 := by rw [World.size_alloc]
  have HCS := Aside0.mk hcs
  have HKZ := Aside0.mk hkz
  clear hkr hI1 hE1 hcs hkz e0
  go_enter Try.func69, Try.ntmps69
  go_upto_region 2 with (first
    | (go_at_call 42
       refine HKR.out.mono ?_
       rintro e w2 ⟨B, d, rfl, hS2, hld, hb2⟩)
    | fail)
  have hA3 := (Below.refl _ w2).alloc (Nat.le_refl _) (.cells #[.slice B l.length d, .int .i64 z, .int .i64 g] 100)
  have hI3 := (HI1.out.below hb2).below hA3
  have hE3 := (hA3.block _ (by have := (hb2.block _ (blk_lt HE1.out)).trans HE1.out; exact blk_lt this)).trans ((hb2.block _ (blk_lt HE1.out)).trans HE1.out)
  have hK3 := al_new (W := w2) (o := .cells #[.slice B l.length d, .int .i64 z, .int .i64 g] 100) rfl
  clear hS2 hb2 hA3 HKR HI1 HE1
  generalize w2.alloc (.cells #[.slice B l.length d, .int .i64 z, .int .i64 g] 100) = W3 at *
  generalize w2.heap.size = K at *
  obtain ⟨k0, k1⟩ := hI3.c
  have y1 : W3.cell? ⟨K, 1, none⟩ = some (.int .i64 z) := (blk_cell hK3 1).trans rfl
  have y2 : W3.cell? ⟨K, 2, none⟩ = some (.int .i64 g) := (blk_cell hK3 2).trans rfl
  have e1 : W3.cell? ⟨w.heap.size + 1, 1, none⟩ = some (.int .u64 a.c) := (blk_cell hE3 1).trans rfl
  have e2 : W3.cell? ⟨w.heap.size + 1, 2, none⟩ = some (.bool a.o) := (blk_cell hE3 2).trans rfl
  have e3 : W3.cell? ⟨w.heap.size + 1, 3, none⟩ = some (.int .i64 a.hi) := (blk_cell hE3 3).trans rfl
  have e4 : W3.cell? ⟨w.heap.size + 1, 4, none⟩ = some (.int .u64 a.lo) := (blk_cell hE3 4).trans rfl
  have e5 : W3.cell? ⟨w.heap.size + 1, 5, none⟩ = some (.int .i64 a.mn) := (blk_cell hE3 5).trans rfl
  have e6 : W3.cell? ⟨w.heap.size + 1, 6, none⟩ = some (.int .i64 a.mx) := (blk_cell hE3 6).trans rfl
  have HI3 := Aside0.mk hI3
  clear hI3 hE3 hK3
  rcases HCS.out with h0 | h0
  case inr =>
    subst h0
    go_quiet (fail)
    go_wp2_with fail
    go_ret
    exact ⟨by simp, bdrewN HI3.out.be⟩
  subst h0
  obtain ⟨l', z', g', hr, _, he⟩ := HKZ.out rfl
  simp only [Prod.mk.injEq] at he
  obtain ⟨rfl, rfl, rfl, _⟩ := he
  obtain ⟨_, r1, r2, r3, r4⟩ := right_true hr
  obtain ⟨gn, rfl⟩ : ∃ gn : Nat, g = (gn : Int) := ⟨g.toNat, by omega⟩
  by_cases p1 : gn < gs.length
  case neg =>
    have a1 : decide ((gn : Int) < (gs.length : Int)) = false := decide_eq_false (by omega)
    have a2 : decide (gn < gs.length) = false := decide_eq_false p1
    go_quiet (fail)
    go_wp2_with fail
    go_ret
    exact ⟨by simp [a1, a2], bdrewN HI3.out.be⟩
  have a1 : decide ((gn : Int) < (gs.length : Int)) = true := decide_eq_true (by omega)
  have a2 : decide (gn < gs.length) = true := decide_eq_true p1
  have x0 := (HI3.out.row gn p1).1
  rw [← szG_at p1] at x0
  have hsz := HS.out gn p1
  obtain ⟨S, hSe⟩ : ∃ S, S = szG gs gn := ⟨_, rfl⟩
  rw [← hSe] at x0 hsz
  have HSE := Aside0.mk hSe
  clear hSe
  have d1 : S ≠ 0 := by omega
  have d2 : (S == 0) = false := by simp [d1]
  have g1 : (gn : Int) < (gs.length : Int) := by omega
  by_cases p2 : z % S = 0
  case neg =>
    have b1 : (z % S == 0) = false := by simp [p2]
    go_quiet (fail)
    go_wp2_with fail
    go_ret
    exact ⟨by simp [← HSE.out, p2], bdrewN HI3.out.be⟩
  have b1 : (z % S == 0) = true := by simp [p2]
  have b1' : (z.tmod S == 0) = true := by rw [tmod_pos r1]; exact b1
  by_cases p3 : a.c = 0
  case pos =>
    have c1 : (a.c != 0) = false := by simp [p3]
    go_quiet (fail)
    go_wp2_with fail
    go_ret
    exact ⟨by simp [p3], bdrewN HI3.out.be⟩
  have c1 : (a.c != 0) = true := by simp [p3]
  have hfs : ∀ W, Below W3.heap.size W3 W → FitS W3.heap.size W3 w.heap.size (w.heap.size + 1) K b (o + gn * 2) (some ⟨b, o, none⟩) gs.length c z gn S a W := fun W hb =>
    FitS.step ⟨Below.refl _ _, k0, y1, y2, x0, e1, e2, e3, e4, e5, e6⟩ (Nat.le_refl _) hb
  have hrg : ∀ W, Below W3.heap.size W3 W → Calls Try.prog 81 #[a.v] W fun e w' => e = .returned (.bool (rightF a)) ∧ Below W3.heap.size W3 w' := fun W hb =>
    (right_g (w := W) p3).mono fun e w' ⟨h1, h2⟩ => ⟨h1, hb.trans (h2.mono hb.size)⟩
  unfold Ag.v at hrg
  have HFS := Aside0.mk hfs
  have HRG := Aside0.mk hrg
  clear hfs hrg
  go_region_held3 (fun w' => Below W3.heap.size W3 w' ∧ w'.cell? ⟨w.heap.size, 0, none⟩ = some (.slice (some ⟨b, o, none⟩) gs.length c) ∧ w'.cell? ⟨K, 1, none⟩ = some (.int .i64 z) ∧ w'.cell? ⟨K, 2, none⟩ = some (.int .i64 (gn : Int)) ∧ w'.cell? ⟨b, o + gn * 2, none⟩ = some (.int .i64 S) ∧ w'.cell? ⟨w.heap.size + 1, 1, none⟩ = some (.int .u64 a.c) ∧ w'.cell? ⟨w.heap.size + 1, 2, none⟩ = some (.bool a.o) ∧ w'.cell? ⟨w.heap.size + 1, 3, none⟩ = some (.int .i64 a.hi) ∧ w'.cell? ⟨w.heap.size + 1, 4, none⟩ = some (.int .u64 a.lo) ∧ w'.cell? ⟨w.heap.size + 1, 5, none⟩ = some (.int .i64 a.mn) ∧ w'.cell? ⟨w.heap.size + 1, 6, none⟩ = some (.int .i64 a.mx)) (exact HFS.out _ (by (repeat' (first | with_reducible exact Below.refl _ _ | with_reducible assumption | with_reducible apply bdrew | with_reducible apply bdrewN | with_reducible apply balloc | with_reducible refine bset ?_ (Nat.le_refl _))))) (first
    | (go_at_call 81
       refine (HRG.out _ (by (repeat' (first | with_reducible exact Below.refl _ _ | with_reducible assumption | with_reducible apply bdrew | with_reducible apply bdrewN | with_reducible apply balloc | with_reducible refine bset ?_ (Nat.le_refl _))))).mono ?_
       rintro e w5 ⟨rfl, hb5⟩))
  refine end_at (fun W => Below W3.heap.size W3 W) (by (repeat' (first | with_reducible exact Below.refl _ _ | with_reducible assumption | with_reducible apply bdrew | with_reducible apply bdrewN | with_reducible apply balloc | with_reducible refine bset ?_ (Nat.le_refl _)))) ?_
  intro W hW
  clear k0 k1 y1 y2 x0 e1 e2 e3 e4 e5 e6
  go_wp2_with fail
  go_ret
  exact ⟨by simp [← HSE.out, a1, a2, p2, p3], HI3.out.be.trans (hW.mono HI3.out.be.size)⟩
end Go.Proofs.Ytoikaegohkolkaa.Top
namespace Go.Proofs.Ytoikaegohkolkaa.Top
set_option linter.unusedSimpArgs false
set_option linter.unusedVariables false
open Go.RowKit Go.Proofs.YtoikaegohkolkaaW.PrintWords Go.Proofs.YtoikaegohkolkaaW.PrintLast Go.Proofs.YtoikaegohkolkaaW.PrintMore
/-- An entry whose key can be read, of no byte too. -/
structure Ent.rw (W : World) (x : Ent) : Prop where
  k : RdB W x.A x.k
  kc : x.k.length ≤ x.c
theorem Ent.rw.below {W W1 : World} {x : Ent} (h : x.rw W) (hb : Below W.heap.size W W1) : x.rw W1 := ⟨h.k.below hb, h.kc⟩
/-- A row of such entries. -/
structure EnRow (W : World) (b o : Nat) (es : List Ent) : Prop where
  at_ : ∀ j (h : j < es.length), ∀ m u, es[j].cells[m]? = some u → W.cell? ⟨b, o + j * 7 + m, none⟩ = some u
  rd : ∀ x ∈ es, x.rw W
theorem EnRow.below {W W1 : World} {b o : Nat} {es : List Ent} (h : EnRow W b o es) (hb : Below W.heap.size W W1) : EnRow W1 b o es :=
  ⟨fun j hj m u hu => cell_below hb (h.at_ j hj m u hu), fun x hx => (h.rd x hx).below hb⟩
theorem EnRow.cells {W : World} {b o : Nat} {es : List Ent} (h : EnRow W b o es) {j : Nat} (hj : j < es.length) :
    W.cell? ⟨b, o + j * 7, none⟩ = some (.slice es[j].A es[j].k.length es[j].c) ∧ W.cell? ⟨b, o + j * 7 + 1, none⟩ = some (.int .u64 es[j].a.c) ∧ W.cell? ⟨b, o + j * 7 + 2, none⟩ = some (.bool es[j].a.o) ∧
      W.cell? ⟨b, o + j * 7 + 3, none⟩ = some (.int .i64 es[j].a.hi) ∧ W.cell? ⟨b, o + j * 7 + 4, none⟩ = some (.int .u64 es[j].a.lo) ∧ W.cell? ⟨b, o + j * 7 + 5, none⟩ = some (.int .i64 es[j].a.mn) ∧ W.cell? ⟨b, o + j * 7 + 6, none⟩ = some (.int .i64 es[j].a.mx) :=
  ⟨h.at_ j hj 0 _ rfl, h.at_ j hj 1 _ rfl, h.at_ j hj 2 _ rfl, h.at_ j hj 3 _ rfl, h.at_ j hj 4 _ rfl, h.at_ j hj 5 _ rfl, h.at_ j hj 6 _ rfl⟩
theorem ERow.en {W : World} {b o : Nat} {es : List Ent} (h : ERow W b o es) : EnRow W b o es := ⟨h.at_, fun x hx => ⟨(h.rd x hx).k, (h.rd x hx).kc⟩⟩
set_option maxRecDepth 100000 in
set_option maxHeartbeats 2000000 in
theorem eidxF_c {w : World} {R : Option Addr} {b o c rb : Nat} {es : List Ent} (p : Ent → Bool) (hR : es ≠ [] → R = some ⟨b, o, none⟩) (h : EnRow w b o es) (hn : es.length ≤ 4096)
    (hcl : ∀ W, Below w.heap.size w W → ∀ x ∈ es, Calls Try.prog 68 #[x.v, .pointer (some ⟨rb, 0, none⟩)] W fun e w' => e = .returned (.bool (p x)) ∧ Below W.heap.size W w') :
    Calls Try.prog 41 #[.slice R es.length c, .func (.func 68) #[] #[.pointer (some ⟨rb, 0, none⟩)]] w fun e w' => ∃ z : Int, e = .returned (.int .i64 z) ∧ decide (0 ≤ z) = es.any p ∧ Below w.heap.size w w' := by
  have HR := Aside0.mk hR
  have H := Aside0.mk h
  have HCL := Aside0.mk hcl
  clear hR h hcl
  go_enter Try.func41, Try.ntmps41
  go_wp2_with fail
  go_loopw [8] (fun i wr => ∃ j : Nat, j ≤ es.length ∧ i = .int .i64 j ∧ Aside0 (∀ x ∈ es.take j, p x = false) ∧ Aside0 (Below w.heap.size w wr)) (fun i _ => es.length - (intOf i).toNat)
  case atStart => exact ⟨0, by omega, rfl, ⟨fun x hx => by simp at hx⟩, ⟨Below.refl _ _⟩⟩
  case round =>
    obtain ⟨j, hj, rfl, HP, HB⟩ := hrel
    by_cases hlt : j < es.length
    · have t1 : decide (j < es.length) = true := decide_eq_true hlt
      obtain rfl := HR.out (by intro e; rw [e] at hlt; simp at hlt)
      have hE := H.out.below HB.out
      obtain ⟨x0, x1, x2, x3, x4, x5, x6⟩ := hE.cells hlt
      have hc := HCL.out wr HB.out _ (List.getElem_mem hlt)
      have htk : es.take (j + 1) = es.take j ++ [es[j]] := List.take_succ_eq_append_getElem hlt
      have hmem := List.getElem_mem hlt
      have HTK := Aside0.mk htk
      have HM := Aside0.mk hmem
      generalize es[j] = x at *
      unfold Ent.v entV at hc
      have HC := Aside0.mk hc
      have hs := HB.out.size
      clear hE htk hmem hc
      cases hp : p x with
      | false =>
        rw [hp] at HC
        have HPX := Aside0.mk hp
        clear hp
        go_wp2_with (first | (refine HC.out.mono ?_; rintro e w2 ⟨rfl, hb2⟩) | fail)
        go_roundw
        case rel => exact ⟨j + 1, by omega, by go_num, ⟨fun y hy => by
          rw [HTK.out] at hy
          rcases List.mem_append.1 hy with hy | hy
          · exact HP.out y hy
          · rw [List.mem_singleton.1 hy]; exact HPX.out⟩, ⟨HB.out.trans (hb2.mono hs)⟩⟩
        case measure => simp [intOf]; omega
      | true =>
        rw [hp] at HC
        have HPX := Aside0.mk hp
        clear hp
        go_wp2_with (first | (refine HC.out.mono ?_; rintro e w2 ⟨rfl, hb2⟩) | fail)
        go_ret
        exact ⟨(j : Int), rfl, by rw [List.any_eq_true.2 ⟨x, HM.out, HPX.out⟩]; simp, HB.out.trans (hb2.mono hs)⟩
    · obtain rfl : j = es.length := by omega
      have t1 : decide (es.length < es.length) = false := decide_eq_false hlt
      have hp := HP.out
      rw [List.take_length] at hp
      have HPP := Aside0.mk hp
      clear hp
      go_wp2_with fail
      go_ret
      refine ⟨-1, rfl, ?_, HB.out⟩
      have : es.any p = false := by
        cases ha : es.any p with
        | false => rfl
        | true =>
          obtain ⟨x, hx, hpx⟩ := List.any_eq_true.1 ha
          rw [HPP.out x hx] at hpx
          cases hpx
      rw [this]
      rfl
theorem econtF_c {w : World} {R : Option Addr} {b o c rb : Nat} {es : List Ent} (p : Ent → Bool) (hR : es ≠ [] → R = some ⟨b, o, none⟩) (h : EnRow w b o es) (hn : es.length ≤ 4096)
    (hcl : ∀ W, Below w.heap.size w W → ∀ x ∈ es, Calls Try.prog 68 #[x.v, .pointer (some ⟨rb, 0, none⟩)] W fun e w' => e = .returned (.bool (p x)) ∧ Below W.heap.size W w') :
    Calls Try.prog 20 #[.slice R es.length c, .func (.func 68) #[] #[.pointer (some ⟨rb, 0, none⟩)]] w fun e w' => e = .returned (.bool (es.any p)) ∧ Below w.heap.size w w' := by
  have HI := Aside0.mk (eidxF_c (c := c) p hR h hn hcl)
  clear hR h hcl
  go_enter Try.func20, Try.ntmps20
  go_wp2_with (first | (go_at_call 41; refine HI.out.mono ?_; rintro e w2 ⟨z, rfl, hz, hb2⟩) | fail)
  go_ret
  exact ⟨by rw [← hz]; rfl, hb2⟩
set_option maxRecDepth 100000 in
set_option maxHeartbeats 2000000 in
theorem eidxS_c {w : World} {R : Option Addr} {b o c rb mb : Nat} {es : List Ent} (p : Ent → Bool) (hR : es ≠ [] → R = some ⟨b, o, none⟩) (h : EnRow w b o es) (hn : es.length ≤ 4096)
    (hcl : ∀ W, Below w.heap.size w W → ∀ x ∈ es, Calls Try.prog 21 #[x.v, .pointer (some ⟨rb, 0, none⟩), .pointer (some ⟨mb, 0, none⟩)] W fun e w' => e = .returned (.bool (p x)) ∧ Below W.heap.size W w') :
    Calls Try.prog 41 #[.slice R es.length c, .func (.func 21) #[] #[.pointer (some ⟨rb, 0, none⟩), .pointer (some ⟨mb, 0, none⟩)]] w fun e w' => ∃ z : Int, e = .returned (.int .i64 z) ∧ decide (0 ≤ z) = es.any p ∧ Below w.heap.size w w' := by
  have HR := Aside0.mk hR
  have H := Aside0.mk h
  have HCL := Aside0.mk hcl
  clear hR h hcl
  go_enter Try.func41, Try.ntmps41
  go_wp2_with fail
  go_loopw [8] (fun i wr => ∃ j : Nat, j ≤ es.length ∧ i = .int .i64 j ∧ Aside0 (∀ x ∈ es.take j, p x = false) ∧ Aside0 (Below w.heap.size w wr)) (fun i _ => es.length - (intOf i).toNat)
  case atStart => exact ⟨0, by omega, rfl, ⟨fun x hx => by simp at hx⟩, ⟨Below.refl _ _⟩⟩
  case round =>
    obtain ⟨j, hj, rfl, HP, HB⟩ := hrel
    by_cases hlt : j < es.length
    · have t1 : decide (j < es.length) = true := decide_eq_true hlt
      obtain rfl := HR.out (by intro e; rw [e] at hlt; simp at hlt)
      have hE := H.out.below HB.out
      obtain ⟨x0, x1, x2, x3, x4, x5, x6⟩ := hE.cells hlt
      have hc := HCL.out wr HB.out _ (List.getElem_mem hlt)
      have htk : es.take (j + 1) = es.take j ++ [es[j]] := List.take_succ_eq_append_getElem hlt
      have hmem := List.getElem_mem hlt
      have HTK := Aside0.mk htk
      have HM := Aside0.mk hmem
      generalize es[j] = x at *
      unfold Ent.v entV at hc
      have HC := Aside0.mk hc
      have hs := HB.out.size
      clear hE htk hmem hc
      cases hp : p x with
      | false =>
        rw [hp] at HC
        have HPX := Aside0.mk hp
        clear hp
        go_wp2_with (first | (refine HC.out.mono ?_; rintro e w2 ⟨rfl, hb2⟩) | fail)
        go_roundw
        case rel => exact ⟨j + 1, by omega, by go_num, ⟨fun y hy => by
          rw [HTK.out] at hy
          rcases List.mem_append.1 hy with hy | hy
          · exact HP.out y hy
          · rw [List.mem_singleton.1 hy]; exact HPX.out⟩, ⟨HB.out.trans (hb2.mono hs)⟩⟩
        case measure => simp [intOf]; omega
      | true =>
        rw [hp] at HC
        have HPX := Aside0.mk hp
        clear hp
        go_wp2_with (first | (refine HC.out.mono ?_; rintro e w2 ⟨rfl, hb2⟩) | fail)
        go_ret
        exact ⟨(j : Int), rfl, by rw [List.any_eq_true.2 ⟨x, HM.out, HPX.out⟩]; simp, HB.out.trans (hb2.mono hs)⟩
    · obtain rfl : j = es.length := by omega
      have t1 : decide (es.length < es.length) = false := decide_eq_false hlt
      have hp := HP.out
      rw [List.take_length] at hp
      have HPP := Aside0.mk hp
      clear hp
      go_wp2_with fail
      go_ret
      refine ⟨-1, rfl, ?_, HB.out⟩
      have : es.any p = false := by
        cases ha : es.any p with
        | false => rfl
        | true =>
          obtain ⟨x, hx, hpx⟩ := List.any_eq_true.1 ha
          rw [HPP.out x hx] at hpx
          cases hpx
      rw [this]
      rfl
theorem econtS_c {w : World} {R : Option Addr} {b o c rb mb : Nat} {es : List Ent} (p : Ent → Bool) (hR : es ≠ [] → R = some ⟨b, o, none⟩) (h : EnRow w b o es) (hn : es.length ≤ 4096)
    (hcl : ∀ W, Below w.heap.size w W → ∀ x ∈ es, Calls Try.prog 21 #[x.v, .pointer (some ⟨rb, 0, none⟩), .pointer (some ⟨mb, 0, none⟩)] W fun e w' => e = .returned (.bool (p x)) ∧ Below W.heap.size W w') :
    Calls Try.prog 20 #[.slice R es.length c, .func (.func 21) #[] #[.pointer (some ⟨rb, 0, none⟩), .pointer (some ⟨mb, 0, none⟩)]] w fun e w' => e = .returned (.bool (es.any p)) ∧ Below w.heap.size w w' := by
  have HI := Aside0.mk (eidxS_c (c := c) p hR h hn hcl)
  clear hR h hcl
  go_enter Try.func20, Try.ntmps20
  go_wp2_with (first | (go_at_call 41; refine HI.out.mono ?_; rintro e w2 ⟨z, rfl, hz, hb2⟩) | fail)
  go_ret
  exact ⟨by rw [← hz]; rfl, hb2⟩
set_option maxRecDepth 100000 in
set_option maxHeartbeats 2000000 in
theorem eidxM_c {w : World} {R : Option Addr} {b o c : Nat} {es : List Ent} (p : Ent → Bool) (hR : es ≠ [] → R = some ⟨b, o, none⟩) (h : EnRow w b o es) (hn : es.length ≤ 4096)
    (hcl : ∀ W, Below w.heap.size w W → ∀ x ∈ es, Calls Try.prog 80 #[x.v] W fun e w' => e = .returned (.bool (p x)) ∧ Below W.heap.size W w') :
    Calls Try.prog 41 #[.slice R es.length c, .func (.func 80) #[] #[]] w fun e w' => ∃ z : Int, e = .returned (.int .i64 z) ∧ decide (0 ≤ z) = es.any p ∧ Below w.heap.size w w' := by
  have HR := Aside0.mk hR
  have H := Aside0.mk h
  have HCL := Aside0.mk hcl
  clear hR h hcl
  go_enter Try.func41, Try.ntmps41
  go_wp2_with fail
  go_loopw [8] (fun i wr => ∃ j : Nat, j ≤ es.length ∧ i = .int .i64 j ∧ Aside0 (∀ x ∈ es.take j, p x = false) ∧ Aside0 (Below w.heap.size w wr)) (fun i _ => es.length - (intOf i).toNat)
  case atStart => exact ⟨0, by omega, rfl, ⟨fun x hx => by simp at hx⟩, ⟨Below.refl _ _⟩⟩
  case round =>
    obtain ⟨j, hj, rfl, HP, HB⟩ := hrel
    by_cases hlt : j < es.length
    · have t1 : decide (j < es.length) = true := decide_eq_true hlt
      obtain rfl := HR.out (by intro e; rw [e] at hlt; simp at hlt)
      have hE := H.out.below HB.out
      obtain ⟨x0, x1, x2, x3, x4, x5, x6⟩ := hE.cells hlt
      have hc := HCL.out wr HB.out _ (List.getElem_mem hlt)
      have htk : es.take (j + 1) = es.take j ++ [es[j]] := List.take_succ_eq_append_getElem hlt
      have hmem := List.getElem_mem hlt
      have HTK := Aside0.mk htk
      have HM := Aside0.mk hmem
      generalize es[j] = x at *
      unfold Ent.v entV at hc
      have HC := Aside0.mk hc
      have hs := HB.out.size
      clear hE htk hmem hc
      cases hp : p x with
      | false =>
        rw [hp] at HC
        have HPX := Aside0.mk hp
        clear hp
        go_wp2_with (first | (refine HC.out.mono ?_; rintro e w2 ⟨rfl, hb2⟩) | fail)
        go_roundw
        case rel => exact ⟨j + 1, by omega, by go_num, ⟨fun y hy => by
          rw [HTK.out] at hy
          rcases List.mem_append.1 hy with hy | hy
          · exact HP.out y hy
          · rw [List.mem_singleton.1 hy]; exact HPX.out⟩, ⟨HB.out.trans (hb2.mono hs)⟩⟩
        case measure => simp [intOf]; omega
      | true =>
        rw [hp] at HC
        have HPX := Aside0.mk hp
        clear hp
        go_wp2_with (first | (refine HC.out.mono ?_; rintro e w2 ⟨rfl, hb2⟩) | fail)
        go_ret
        exact ⟨(j : Int), rfl, by rw [List.any_eq_true.2 ⟨x, HM.out, HPX.out⟩]; simp, HB.out.trans (hb2.mono hs)⟩
    · obtain rfl : j = es.length := by omega
      have t1 : decide (es.length < es.length) = false := decide_eq_false hlt
      have hp := HP.out
      rw [List.take_length] at hp
      have HPP := Aside0.mk hp
      clear hp
      go_wp2_with fail
      go_ret
      refine ⟨-1, rfl, ?_, HB.out⟩
      have : es.any p = false := by
        cases ha : es.any p with
        | false => rfl
        | true =>
          obtain ⟨x, hx, hpx⟩ := List.any_eq_true.1 ha
          rw [HPP.out x hx] at hpx
          cases hpx
      rw [this]
      rfl
theorem econtM_c {w : World} {R : Option Addr} {b o c : Nat} {es : List Ent} (p : Ent → Bool) (hR : es ≠ [] → R = some ⟨b, o, none⟩) (h : EnRow w b o es) (hn : es.length ≤ 4096)
    (hcl : ∀ W, Below w.heap.size w W → ∀ x ∈ es, Calls Try.prog 80 #[x.v] W fun e w' => e = .returned (.bool (p x)) ∧ Below W.heap.size W w') :
    Calls Try.prog 20 #[.slice R es.length c, .func (.func 80) #[] #[]] w fun e w' => e = .returned (.bool (es.any p)) ∧ Below w.heap.size w w' := by
  have HI := Aside0.mk (eidxM_c (c := c) p hR h hn hcl)
  clear hR h hcl
  go_enter Try.func20, Try.ntmps20
  go_wp2_with (first | (go_at_call 41; refine HI.out.mono ?_; rintro e w2 ⟨z, rfl, hz, hb2⟩) | fail)
  go_ret
  exact ⟨by rw [← hz]; rfl, hb2⟩
end Go.Proofs.Ytoikaegohkolkaa.Top
