/-
  simfs: act at a new name; conditions: those that each theorem states.
-/
import Derived.Test.YtnmiipcoojijiaaDoorGD
namespace Go.Proofs.YtnmiipcoojijiaaDoor.Top
set_option linter.unusedSimpArgs false
set_option linter.unusedVariables false
open Go.RowKit Go.Proofs.YtnmiipcoojijiaaDoorW.PrintWords Go.Proofs.YtnmiipcoojijiaaDoorW.PrintLast Go.Proofs.YtnmiipcoojijiaaDoorW.PrintMore Go.Proofs.YtnmiipcoojijiaaDoor.Plain Go.Proofs.YtnmiipcoojijiaaDoor.Fns Go.Maps
theorem KeepFs.drew {N : Nat} {A B : World} (h : KeepFs N A B) : KeepFs N A B.drew := ⟨bdrew h.be, h.ty⟩
theorem map_ne {W : World} {mb k : Nat} {cs : Array Value} {t : TypeId} {fz : Nat × Nat} (h : ∃ es c, W.heap[mb]? = some (.map es c)) (hk : W.heap[k]? = some (.cells cs t fz)) : k ≠ mb := fun e => by
  obtain ⟨es, c, h⟩ := h
  rw [e, h] at hk
  cases hk
/-- An act's row in a block. -/
def actC (n b : Nat) : Obj := .cells #[.string ⟨#[]⟩, .string (segS n), .pointer (some ⟨b, 0, none⟩)] 83 (0, 0)
def fsC (F : Fs) (vp : Value) : Obj := .cells #[.int .i64 F.room, .map (some F.db), .map (some F.ob), vp, .bool F.pl, .int .i64 F.af, .int .i64 F.er] 50 (0, 0)
/-- What do lays into the directory, as act asks it. -/
def DoR (F : Fs) (q n b g : Nat) (W : World) (e : Ending) (w3 : World) : Prop :=
  e = .returned (.tuple #[]) ∧ (w3.cell? ⟨g, 0, none⟩ = some (.string ⟨#[]⟩) ∧ w3.cell? ⟨g, 1, none⟩ = some (.string (segS n)) ∧ w3.cell? ⟨g, 2, none⟩ = some (.pointer (some ⟨b, 0, none⟩)) ∧ w3.cell? ⟨F.fb, 1, none⟩ = some (.map (some F.db)) ∧ w3.cell? ⟨F.fb, 3, none⟩ = some (.slice none 0 0) ∧ w3.frozen? ⟨F.fb, 3, none⟩ = false) ∧
    FsAt { F with dm := upd F.dm n b, fd := fun x => if x = b then ([], 0) else F.fd x } (q + 1) w3 ∧ KeepFs F.lo W w3 ∧ w3.heap[F.fb]? = some (fsC F (.slice none 0 0)) ∧ w3.heap[g]? = some (actC n b)
set_option maxRecDepth 100000 in
theorem do_fs {W : World} {F : Fs} {q n b g : Nat} (h : FsAt F q W) (hp : F.pd = none) (hg : W.heap[g]? = some (actC n b)) (h1 : 1 ≤ n) (h2 : n ≤ 7) (hq : q < 500) (hf : FileAt W b [] 0) (hlo : F.lo ≤ b) (hI : ¬ F.Is b) :
    Calls Tryd.prog 43 #[.agg #[.string ⟨#[]⟩, .string (segS n), .pointer (some ⟨b, 0, none⟩)], .map (some F.db)] W (DoR F q n b g W) := by
  refine (do_c (b := b) h.dmp h1 h2 (by omega)).mono fun e w3 ⟨he, hm, hgr⟩ => ?_
  obtain ⟨vp, hbx, hpd⟩ := h.box
  rw [hp] at hpd
  have hvp : vp = .slice none 0 0 := hpd
  subst hvp
  have g3 : w3.heap[g]? = some (actC n b) := (hgr.block g (blk_lt hg) (fun e => map_ne h.dmp.isMap hg (by injection e))).trans hg
  have f3 : w3.heap[F.fb]? = some (fsC F (.slice none 0 0)) := (hgr.block F.fb h.fb_lt (fun e => h.fb_ne.1 (by injection e))).trans hbx.b
  have hbd : b ≠ F.db := by
    obtain ⟨A, c, hb0, _⟩ := hf
    exact map_ne h.dmp.isMap hb0
  obtain ⟨r1, r2⟩ := h.name hp hgr hm hf hlo hI hbd
  exact ⟨he, ⟨(blk_cell g3 0).trans rfl, (blk_cell g3 1).trans rfl, (blk_cell g3 2).trans rfl, (blk_cell f3 1).trans rfl, (blk_cell f3 3).trans rfl, blk_frozen f3 3⟩, r1, r2, f3, g3⟩
/-- What act gives at a new name. -/
def ActR (F : Fs) (q n b : Nat) (w : World) (e : Ending) (w' : World) : Prop :=
  e = .returned (.int .i64 F.pw) ∧ (F.pw = 0 → FsAt (F.add n b) (q + 1) w') ∧ (F.pw ≠ 0 → FsAt F.pln q w') ∧ KeepFs F.lo w w'
/-- A file's box, and the act's row, behind a plan. -/
def PlR (F : Fs) (q n b g : Nat) (w1 : World) (e : Ending) (w2 : World) : Prop :=
  e = .returned (.int .i64 F.pw) ∧ FsAt F.pln q w2 ∧ KeepFs F.lo w1 w2 ∧ w2.heap[g]? = some (actC n b) ∧ FileAt w2 b [] 0 ∧ (w2.cell? ⟨g, 0, none⟩ = some (.string ⟨#[]⟩) ∧ w2.cell? ⟨g, 1, none⟩ = some (.string (segS n)) ∧ w2.cell? ⟨g, 2, none⟩ = some (.pointer (some ⟨b, 0, none⟩)) ∧ w2.cell? ⟨F.fb, 1, none⟩ = some (.map (some F.db)))
theorem plan_act {w1 : World} {F : Fs} {q n b g : Nat} (h : FsAt F q w1) (hg : w1.heap[g]? = some (actC n b)) (hf : FileAt w1 b [] 0) (hI : ¬ F.Is b) : Calls Tryd.prog 35 #[.pointer (some ⟨F.fb, 0, none⟩)] w1 (PlR F q n b g w1) := by
  refine (plan_fs h).mono fun e w2 ⟨he, h2, hk, hgr⟩ => ?_
  have g2 := (hk.ty _ _ _ hg (by decide) (by decide)).trans hg
  obtain ⟨vp, hbx, _⟩ := h2.box
  obtain ⟨vp0, hbx0, _⟩ := h.box
  have hbn : b ≠ F.fb := fun e => by
    obtain ⟨A, c, hb0, _⟩ := hf
    have := hbx0.b
    rw [← e, hb0] at this
    simp only [Option.some.injEq, Obj.cells.injEq] at this
    exact absurd this.2.1 (by decide)
  exact ⟨he, h2, hk, g2, hf.move hk (hgr.block b hf.lt (fun e => hbn (by injection e))), (blk_cell g2 0).trans rfl, (blk_cell g2 1).trans rfl, (blk_cell g2 2).trans rfl, (blk_cell hbx.b 1).trans rfl⟩
theorem act_end {F : Fs} {q n b : Nat} {w3 w6 : World} {v : Value} (h : FsAt { F.pln with dm := upd F.pln.dm n b, fd := fun x => if x = b then ([], 0) else F.pln.fd x } q w3) (hx : w3.heap[F.pln.fb]? = some (fsC F.pln (.slice none 0 0))) (hb : Below w3.heap.size w3 w6)
    (ho : w6.ownsRow w3.heap.size 83 3 v 1 [.string ⟨#[]⟩, .string (segS n), ptrV b]) (h1 : 1 ≤ n) (h2 : n ≤ 7) : FsAt (F.add n b) q (w6.setCell ⟨F.fb, 3, none⟩ v) ∧ KeepFs F.pln.lo w3 (w6.setCell ⟨F.fb, 3, none⟩ v) := by
  have h6 := h.below hb
  have hx6 := (hb.block _ (blk_lt hx)).trans hx
  have hgr : w6.grownBy (w6.setCell ⟨F.fb, 3, none⟩ v) (some F.fb) := ⟨rfl, rfl, rfl, by simp, fun k hk hne => Below.heap_setCell _ _ _ _ (fun e => hne (by rw [show k = F.fb from e]))⟩
  have hbk := blk_put hx6 3 v rfl
  have hpd : PendAt (w6.setCell ⟨F.fb, 3, none⟩ v) v (some (n, b)) := (PendAt.of_own ho).move (KeepFs.grown (N := F.pln.lo) hgr h6.lo_le h.l1 (.inr (.inl ⟨_, _, _, hx6, .inl rfl⟩)))
  obtain ⟨r1, r2⟩ := h6.put2 (F' := F.add n b) hgr rfl ⟨v, ⟨hbk⟩, hpd⟩ h.ha (fun j c hj => by
    have e : (n, b) = (j, c) := by
      have : some (n, b) = some (j, c) := hj
      injection this
    injection e with e1 e2
    subst e1
    subst e2
    exact ⟨.inl ⟨n, upd_same _ _ _⟩, h1, h2⟩)
  exact ⟨r1, (h.keep hb).trans r2⟩
set_option maxRecDepth 100000 in
set_option maxHeartbeats 8000000 in
theorem act_c {w : World} {F : Fs} {q n b : Nat} (h : FsAt F q w) (hp : F.pd = none) (h1 : 1 ≤ n) (h2 : n ≤ 7) (hq : q < 500) (hf : FileAt w b [] 0) (hlo : F.lo ≤ b) (hI : ¬ F.Is b) :
    Calls Tryd.prog 34 #[.pointer (some ⟨F.fb, 0, none⟩), .agg #[.string ⟨#[]⟩, .string (segS n), .pointer (some ⟨b, 0, none⟩)]] w (ActR F q n b w) := by
  have hba := (Below.refl w.heap.size w).alloc (Nat.le_refl _) (actC n b)
  have hka := h.keep hba
  have HP := Aside0.mk (plan_act (n := n) (g := w.heap.size) (h.below hba) (al_new rfl) (hf.move hka (hba.block _ hf.lt)) hI)
  have HD := Aside0.mk (fun (W : World) (hW : FsAt F.pln q W) (hg : W.heap[w.heap.size]? = some (actC n b)) (hfW : FileAt W b [] 0) => do_fs hW hp hg h1 h2 hq hfW hlo hI)
  have H := Aside0.mk hka
  have hr0 : ∃ r, r = F.pw := ⟨_, rfl⟩
  obtain ⟨r, hr⟩ := hr0
  unfold ActR
  unfold PlR at HP
  rw [← hr]
  rw [← hr] at HP
  have HR := Aside0.mk hr
  have HN := Aside0.mk (And.intro hp (And.intro h1 h2))
  clear h hp hf hlo hI hr hba hka h1 h2 hq
  unfold actC at HP
  by_cases hz : r = 0
  · subst hz
    go_enter Tryd.func34, Tryd.ntmps34
    go_wp2_with (first
      | (go_at_call 35; refine HP.out.mono ?_; rintro e w2 ⟨rfl, hf2, hk2, hg2, hb2, c0, c1, c2, c3⟩
         have HF2 := Aside0.mk (And.intro hk2 (HD.out w2.drew (hf2.below (below_drew (Below.refl _ _))) hg2 (hb2.move (KeepFs.of_below (N := F.lo) (below_drew (Below.refl _ w2)) hf2.lo_le) rfl)))
         clear hf2 hk2 hg2 hb2)
      | fail)
    unfold DoR at HF2
    go_region_held3 (fun w' => w'.cell? ⟨w.heap.size, 0, none⟩ = some (.string ⟨#[]⟩) ∧ w'.cell? ⟨w.heap.size, 1, none⟩ = some (.string (segS n)) ∧ w'.cell? ⟨w.heap.size, 2, none⟩ = some (.pointer (some ⟨b, 0, none⟩)) ∧ w'.cell? ⟨F.fb, 1, none⟩ = some (.map (some F.db))) (first | exact ⟨by assumption, by assumption, by assumption, by assumption⟩ | (trace_state; fail)) (first | (go_at_call 43; refine HF2.out.2.mono ?_; rintro e w3 ⟨rfl, ⟨y0, y1, y2, y3, y4, y5⟩, hf3, hk3, hx3, hg3⟩) | fail)
    have z3 : w3.cell? ⟨F.fb, 3, none⟩ = some (.slice none 0 0) := y4
    have z5 : w3.frozen? ⟨F.fb, 3, none⟩ = false := y5
    have a0 := w3.heap.size
    have k3 : (w3.alloc (.cells #[.string ⟨#[]⟩, .string (segS n), .pointer (some ⟨b, 0, none⟩)] 83)).cell? ⟨F.fb, 3, none⟩ = some (.slice none 0 0) := cell_below ((Below.refl _ w3).alloc (Nat.le_refl _) _) z3
    have HW := Aside0.mk (And.intro hf3 (And.intro hk3 hx3))
    clear hf3 hk3 hx3 hg3 y3 y4 y5 c0 c1 c2 c3 a0
    go_wp2_with fail
    go_region_law (refine step_act (w0 := w3) (W := w3.drew) (base := w3.heap.size) ?hw (.tmp 21) (.tmp 23) ?ho n b rfl ?hs ?hx ?hB ?hz ?_; (case hw => simp [Region.wanted]); (case ho => rfl); (case hs => simp [Act.eval, Act.put]); (case hx => simp [Act.eval, Act.put]); (case hB => exact below_drew (Below.refl _ _)); (case hz => exact Nat.le_refl _); intro v6 w6 hown6 hB6 hg6; obtain ⟨g6, cap6, cur6, rfl, _⟩ := own_some (n := 0) hown6 (by omega); have q3 : w6.cell? ⟨F.fb, 3, none⟩ = some (.slice none 0 0) := cell_below hB6 z3; have hx6 := (hB6.block _ (blk_lt HW.out.2.2)).trans HW.out.2.2; have f63 : w6.frozen? ⟨F.fb, 3, none⟩ = false := blk_frozen hx6 3; have H6 := Aside0.mk (And.intro hown6 (And.intro hB6 hx6)); clear hown6 hB6 hg6 hx6)
    all_goals
      go_wp2_with fail
      go_ret
      obtain ⟨r1, r2⟩ := act_end HW.out.1 HW.out.2.2 H6.out.2.1 H6.out.1 HN.out.2.1 HN.out.2.2
      exact ⟨rfl, fun _ => r1, fun h => absurd rfl h, ((H.out.trans HF2.out.1).drew.trans HW.out.2.1).trans r2⟩
  · have t1 : decide (r = 0) = false := decide_eq_false hz
    have t2 : (r == 0) = false := by simp [hz]
    have t3 : (r != 0) = true := by simp [hz]
    go_enter Tryd.func34, Tryd.ntmps34
    go_wp2_with (first
      | (go_at_call 35; refine HP.out.mono ?_; rintro e w2 ⟨rfl, hf2, hk2, hg2, hb2, c0, c1, c2, c3⟩)
      | fail)
    go_ret
    exact ⟨rfl, fun h => absurd h hz, fun _ => hf2, H.out.trans hk2⟩
/-- What Create gives at a new name. -/
def CreR (F : Fs) (q n : Nat) (w : World) (e : Ending) (w' : World) : Prop :=
  ∃ b, e = .returned (.int .i64 F.pw) ∧ (F.pw = 0 → FsAt (F.add n b) (q + 1) w') ∧ (F.pw ≠ 0 → FsAt F.pln q w') ∧ KeepFs F.lo w w' ∧ ¬ F.Is b
set_option maxRecDepth 100000 in
set_option maxHeartbeats 4000000 in
theorem create_c {w : World} {F : Fs} {q n : Nat} (h : FsAt F q w) (hp : F.pd = none) (hn : F.dm n = none) (h1 : 1 ≤ n) (h2 : n ≤ 7) (hq : q < 200) :
    Calls Tryd.prog 19 #[.pointer (some ⟨F.fb, 0, none⟩), .string (segS n)] w (CreR F q n w) := by
  obtain ⟨vp, hb, hpd⟩ := h.box
  have HM := Aside0.mk (made_c hb h.hr)
  have HI := Aside0.mk (fun w : World => isname_c (w := w) h1 h2)
  have HL := Aside0.mk (fun W (hB : Below w.heap.size w W) => (h.below hB).dmp.look h1 h2)
  rw [hn] at HL
  have HB : Aside0 (∀ W, Below w.heap.size w W → W.cell? ⟨F.fb, 1, none⟩ = some (.map (some F.db))) := ⟨fun W hB => (blk_cell ((hB.block _ (blk_lt hb.b)).trans hb.b) 1).trans rfl⟩
  have HO := Aside0.mk (fun W (hB : Below w.heap.size w W) => (h.below hB).dmp)
  have HA : Aside0 (∀ W, Below w.heap.size w W → Calls Tryd.prog 34 #[.pointer (some ⟨F.fb, 0, none⟩), .agg #[.string ⟨#[]⟩, .string (segS n), .pointer (some ⟨W.heap.size, 0, none⟩)]] (W.alloc (.cells #[.slice none 0 0, .int .i64 0] 68)) (ActR F q n W.heap.size (W.alloc (.cells #[.slice none 0 0, .int .i64 0] 68)))) :=
    ⟨fun W hB => act_c (h.below (hB.alloc hB.size _)) hp h1 h2 (by omega) ⟨none, 0, al_new rfl, RdB.nil _ _, ⟨Nat.le_refl _, fun _ => rfl⟩, Nat.le_refl _, by simp, fun a ha => by cases ha⟩ (Nat.le_trans h.lo_le hB.size) (fun hI => absurd (h.files _ hI).lt (by have := hB.size; omega))⟩
  have H := Aside0.mk h
  clear h hp hn hb hpd
  go_enter Tryd.func19, Tryd.ntmps19
  go_wp2_with (first
    | (go_at_call 17; refine HM.out.mono ?_; rintro e w2 ⟨rfl, hb2⟩)
    | (go_at_call 33; refine (HI.out _).mono ?_; rintro e w3 ⟨rfl, hb3⟩
       have hb23 := hb2.trans (hb3.mono hb2.size)
       have c1 := HB.out w3 hb23
       have hl : (Instr.lookup 47 (.map (some F.db)) (.string (segS n)) false).run Tryd.prog w3 = .ok (.pointer none) w3 := HL.out w3 hb23
       obtain ⟨z, hz, hlen⟩ := (HO.out w3 hb23).len 3
       have t1 : decide ((256 : Int) ≤ (z : Int)) = false := decide_eq_false (by omega)
       have t2 : decide (256 ≤ z) = false := decide_eq_false (by omega))
    | (go_at_call 34; refine (HA.out w3 hb23).mono ?_; rintro e w5 ⟨rfl, r1, r2, r3⟩)
    | fail)
  go_ret
  exact ⟨w3.heap.size, rfl, r1, r2, (H.out.keep (hb23.alloc hb23.size _)).trans r3, fun hI => absurd (H.out.files _ hI).lt (by have := hb23.size; omega)⟩
/-- Nothing is pending. -/
def Fs.np (F : Fs) : Fs := { F with pd := none }
/-- What was pending is done to the directory that is synced. -/
def Fs.old (F : Fs) (n b : Nat) : Fs := { F with om := upd F.om n b }
theorem FsAt.old {F : Fs} {q n b : Nat} {W W1 : World} (h : FsAt F q W) (hp : F.pd = some (n, b)) (hg : W.grownBy W1 (some F.ob)) (hm : MapAt W1 F.ob (q + 1) (upd F.om n b)) : FsAt (F.old n b) (q + 1) W1 ∧ KeepFs F.lo W W1 := by
  have hk : KeepFs F.lo W W1 := KeepFs.grown hg h.lo_le h.l3 (.inl h.omp.isMap)
  obtain ⟨vp, h1, h2⟩ := h.box
  obtain ⟨n1, n2, n3⟩ := h.fb_ne
  have hIs : ∀ x, (F.old n b).Is x → F.Is x := fun x hx => by
    rcases hx with hx | ⟨j, hj⟩ | hx
    · exact .inl hx
    · rcases upd_some hj with ⟨_, e⟩ | ⟨_, hj⟩
      · rw [e]; exact .inr (.inr ⟨n, hp⟩)
      · exact .inr (.inl ⟨j, hj⟩)
    · exact .inr (.inr hx)
  exact ⟨⟨⟨vp, ⟨(hg.block _ (blk_lt h1.b) (by simp; exact n2)).trans h1.b⟩, h2.move hk⟩, (h.dmp.move (hg.block _ h.dmp.lt (by simp; exact h.ne))).mono (Nat.le_succ _), hm, h.ne, fun x hx => (h.files x (hIs x hx)).move hk (hg.block _ (h.files x (hIs x hx)).lt (by simp; exact fun e => (n3 x (hIs x hx)).2.2 e.symm)), h.pdn, h.hr, h.ha, h.l1, h.l2, h.l3, fun x hx => h.l4 x (hIs x hx)⟩, hk⟩
/-- What do lays into the directory that is synced. -/
def OldR (F : Fs) (q n b g : Nat) (W : World) (e : Ending) (w3 : World) : Prop :=
  e = .returned (.tuple #[]) ∧ (w3.cell? ⟨g, 0, none⟩ = some (.string ⟨#[]⟩) ∧ w3.cell? ⟨g, 1, none⟩ = some (.string (segS n)) ∧ w3.cell? ⟨g, 2, none⟩ = some (.pointer (some ⟨b, 0, none⟩)) ∧ w3.cell? ⟨F.fb, 2, none⟩ = some (.map (some F.ob))) ∧
    FsAt (F.old n b) (q + 1) w3 ∧ KeepFs F.lo W w3
set_option maxRecDepth 100000 in
theorem do_old {W : World} {F : Fs} {q n b g : Nat} (h : FsAt F q W) (hp : F.pd = some (n, b)) (hg : W.heap[g]? = some (actC n b)) (hq : q < 500) :
    Calls Tryd.prog 43 #[.agg #[.string ⟨#[]⟩, .string (segS n), .pointer (some ⟨b, 0, none⟩)], .map (some F.ob)] W (OldR F q n b g W) := by
  obtain ⟨h1, h2⟩ := h.pdn n b hp
  refine (do_c (b := b) h.omp h1 h2 (by omega)).mono fun e w3 ⟨he, hm, hgr⟩ => ?_
  obtain ⟨vp, hbx, hpd⟩ := h.box
  have g3 : w3.heap[g]? = some (actC n b) := (hgr.block g (blk_lt hg) (fun e => map_ne h.omp.isMap hg (by injection e))).trans hg
  have f3 : w3.heap[F.fb]? = _ := (hgr.block F.fb h.fb_lt (fun e => h.fb_ne.2.1 (by injection e))).trans hbx.b
  obtain ⟨r1, r2⟩ := h.old hp hgr hm
  exact ⟨he, ⟨(blk_cell g3 0).trans rfl, (blk_cell g3 1).trans rfl, (blk_cell g3 2).trans rfl, (blk_cell f3 2).trans rfl⟩, r1, r2⟩
/-- The box's row of what is pending is emptied. -/
theorem FsAt.empty {F : Fs} {q : Nat} {W : World} (h : FsAt F q W) : FsAt F.np q (W.setCell ⟨F.fb, 3, none⟩ (.slice none 0 0)) ∧ KeepFs F.lo W (W.setCell ⟨F.fb, 3, none⟩ (.slice none 0 0)) := by
  obtain ⟨vp, hbx, hpd⟩ := h.box
  have hgr : W.grownBy (W.setCell ⟨F.fb, 3, none⟩ (.slice none 0 0)) (some F.fb) := ⟨rfl, rfl, rfl, by simp, fun k hk hne => Below.heap_setCell _ _ _ _ (fun e => hne (by rw [show k = F.fb from e]))⟩
  exact h.put (F' := F.np) hgr rfl ⟨.slice none 0 0, ⟨blk_put hbx.b 3 (.slice none 0 0) rfl⟩, rfl⟩ h.ha (.inr rfl)
def SetR (F F' : Fs) (q : Nat) (w : World) (e : Ending) (w' : World) : Prop := e = .returned (.tuple #[]) ∧ FsAt F' q w' ∧ KeepFs F.lo w w'
theorem FsAt.box3 {F : Fs} {q : Nat} {W : World} (h : FsAt F q W) : ∃ vp, PendAt W vp F.pd ∧ W.cell? ⟨F.fb, 3, none⟩ = some vp ∧ W.frozen? ⟨F.fb, 3, none⟩ = false := by
  obtain ⟨vp, hbx, hpd⟩ := h.box
  exact ⟨vp, hpd, (blk_cell hbx.b 3).trans rfl, blk_frozen hbx.b 3⟩
set_option maxRecDepth 100000 in
set_option maxHeartbeats 4000000 in
/-- Nothing is done. -/
theorem settle0 {w : World} {F : Fs} {q : Nat} (h : FsAt F q w) : Calls Tryd.prog 25 #[.pointer (some ⟨F.fb, 0, none⟩), .int .i64 0] w (SetR F F.np q w) := by
  obtain ⟨vp, hpd, c3, f3⟩ := h.box3
  have H := Aside0.mk h
  obtain ⟨A, m, c, rfl⟩ : ∃ A m c, vp = .slice A m c := by
    cases hp : F.pd with
    | none => rw [hp] at hpd; exact ⟨_, _, _, hpd⟩
    | some p =>
      rw [hp] at hpd
      obtain ⟨g, c, hv, _⟩ := hpd
      exact ⟨_, _, _, hv⟩
  clear h hpd
  go_enter Tryd.func25, Tryd.ntmps25
  go_wp2_with fail
  go_loopw [13] (fun i wr => i = .int .i64 0 ∧ wr = w) (fun _ _ => 0)
  case atStart => exact ⟨rfl, rfl⟩
  case round =>
    obtain ⟨rfl, rfl⟩ := hrel
    go_wp2_with fail
    exact bodyPost_end (by kernel_rfl) rfl ⟨rfl, H.out.empty⟩
set_option maxRecDepth 100000 in
set_option maxHeartbeats 8000000 in
/-- The one act is done. -/
theorem settle1 {w : World} {F : Fs} {q n b : Nat} (h : FsAt F q w) (hp : F.pd = some (n, b)) (hq : q < 500) : Calls Tryd.prog 25 #[.pointer (some ⟨F.fb, 0, none⟩), .int .i64 1] w (SetR F (F.old n b).np (q + 1) w) := by
  obtain ⟨vp, hpd, c3, f3⟩ := h.box3
  rw [hp] at hpd
  obtain ⟨g, c, rfl, hc, ⟨gcs, hgc⟩, x0, x1, x2⟩ := hpd
  unfold ptrV at x2
  have hbx2 : w.cell? ⟨F.fb, 2, none⟩ = some (.map (some F.ob)) := by
    obtain ⟨vp, hbx, _⟩ := h.box
    exact (blk_cell hbx.b 2).trans rfl
  have H := Aside0.mk (And.intro h (And.intro hp hq))
  clear h hp hq hgc
  go_enter Tryd.func25, Tryd.ntmps25
  go_wp2_with fail
  go_loopw [13] (fun i wr => ∃ j : Nat, i = .int .i64 j ∧ j ≤ 1 ∧ (j = 0 → wr = w) ∧ (j = 1 → Aside0 (FsAt (F.old n b) (q + 1) wr ∧ KeepFs F.lo w wr))) (fun i _ => 1 - (intOf i).toNat)
  case atStart => exact ⟨0, rfl, by omega, fun _ => rfl, fun h => absurd h (by omega)⟩
  case round =>
    obtain ⟨j, rfl, hj, h0, hj1⟩ := hrel
    by_cases hlt : j = 0
    · subst hlt
      obtain rfl := h0 rfl
      clear hj1 h0
      go_wp2_with fail
      have hba := (Below.refl wr.heap.size wr).alloc (Nat.le_refl _) (.cells #[.string ⟨#[]⟩, .string (segS n), .pointer (some ⟨b, 0, none⟩)] 83)
      have hnw : (wr.alloc (.cells #[.string ⟨#[]⟩, .string (segS n), .pointer (some ⟨b, 0, none⟩)] 83)).heap[wr.heap.size]? = some (actC n b) := al_new rfl
      have y2 := cell_below hba hbx2
      have HK := Aside0.mk (H.out.1.keep hba)
      have HO := Aside0.mk (do_old (H.out.1.below (below_drew hba)) H.out.2.1 hnw H.out.2.2)
      have y0 := (blk_cell hnw 0).trans (rfl : _ = some (Value.string ⟨#[]⟩))
      have y1 := (blk_cell hnw 1).trans (rfl : _ = some (Value.string (segS n)))
      have y3 := (blk_cell hnw 2).trans (rfl : _ = some (Value.pointer (some ⟨b, 0, none⟩)))
      clear hba hnw x0 x1 x2 c3 f3 hbx2
      unfold OldR at HO
      generalize hgs : wr.heap.size = gs at *
      generalize wr.alloc (.cells #[.string ⟨#[]⟩, .string (segS n), .pointer (some ⟨b, 0, none⟩)] 83) = w2 at *
      have HGS := Aside0.mk hgs
      clear hgs
      go_region_held3 (fun w' => w'.cell? ⟨gs, 0, none⟩ = some (.string ⟨#[]⟩) ∧ w'.cell? ⟨gs, 1, none⟩ = some (.string (segS n)) ∧ w'.cell? ⟨gs, 2, none⟩ = some (.pointer (some ⟨b, 0, none⟩)) ∧ w'.cell? ⟨F.fb, 2, none⟩ = some (.map (some F.ob))) (first | exact ⟨by assumption, by assumption, by assumption, by assumption⟩ | (trace_state; fail)) (first | (go_at_call 43; refine HO.out.mono ?_; rintro e w3 ⟨rfl, ⟨y0, y1, y2, y3⟩, hf3, hk3⟩) | fail)
      all_goals
        go_wp2_with fail
        go_roundw
        case rel => exact ⟨1, by go_num, by omega, fun h => absurd h (by omega), fun _ => ⟨hf3, HK.out.drew.trans hk3⟩⟩
        case measure => simp [intOf]
    · obtain rfl : j = 1 := by omega
      have HJ := hj1 rfl
      clear hj1 h0 c3 f3 x0 x1 x2 hbx2
      obtain ⟨vp, hpd, c3, f3⟩ := HJ.out.1.box3
      have z3 : wr.cell? ⟨F.fb, 3, none⟩ = some vp := c3
      have z4 : wr.frozen? ⟨F.fb, 3, none⟩ = false := f3
      go_wp2_with fail
      have r := HJ.out.1.empty
      exact bodyPost_end (by kernel_rfl) rfl ⟨rfl, r.1, HJ.out.2.trans r.2⟩
def SdR (F : Fs) (q n b : Nat) (w : World) (e : Ending) (w' : World) : Prop :=
  e = .returned (.int .i64 F.pw) ∧ (F.pw = 0 → FsAt (F.pln.old n b).np (q + 1) w') ∧ (F.pw ≠ 0 → FsAt F.pln q w') ∧ KeepFs F.lo w w'
set_option maxRecDepth 100000 in
set_option maxHeartbeats 4000000 in
theorem syncdir_c {w : World} {F : Fs} {q n b : Nat} (h : FsAt F q w) (hp : F.pd = some (n, b)) (hq : q < 500) : Calls Tryd.prog 20 #[.pointer (some ⟨F.fb, 0, none⟩)] w (SdR F q n b w) := by
  have HM : Aside0 (Calls Tryd.prog 17 #[.pointer (some ⟨F.fb, 0, none⟩)] w fun e w' => e = .returned (.bool true) ∧ Below w.heap.size w w') := by
    obtain ⟨vp, hb, hpd⟩ := h.box
    exact ⟨made_c hb h.hr⟩
  have HP := Aside0.mk (fun (W : World) (hB : Below w.heap.size w W) => plan_fs (h.below hB))
  have HS := Aside0.mk (fun (W : World) (hW : FsAt F.pln q W) => settle1 (n := n) (b := b) hW hp hq)
  have H := Aside0.mk (And.intro h hp)
  unfold SdR
  obtain ⟨r, hr⟩ : ∃ r, r = F.pw := ⟨_, rfl⟩
  rw [← hr]
  rw [← hr] at HP
  clear h hp hq hr
  by_cases hz : r = 0
  · subst hz
    go_enter Tryd.func20, Tryd.ntmps20
    go_wp2_with (first
      | (go_at_call 17; refine HM.out.mono ?_; rintro e w2 ⟨rfl, hb2⟩)
      | (go_at_call 35; refine (HP.out _ hb2).mono ?_; rintro e w3 ⟨rfl, hf3, hk3, _⟩
         obtain ⟨vp, hpd, c3, f3⟩ := hf3.box3
         have hpd0 : F.pln.pd = some (n, b) := H.out.2
         rw [hpd0] at hpd
         obtain ⟨g, c, rfl, hc, _⟩ := hpd
         have z3 : w3.cell? ⟨F.fb, 3, none⟩ = some (.slice (some ⟨g, 0, none⟩) 1 c) := c3)
      | (go_at_call 25; refine (HS.out _ hf3).mono ?_; rintro e w4 ⟨rfl, hf4, hk4⟩)
      | fail)
    go_ret
    exact ⟨rfl, fun _ => hf4, fun h => absurd rfl h, ((H.out.1.keep hb2).trans hk3).trans hk4⟩
  · have t1 : decide (r = 0) = false := decide_eq_false hz
    have t2 : (r == 0) = false := by simp [hz]
    have t3 : (r != 0) = true := by simp [hz]
    go_enter Tryd.func20, Tryd.ntmps20
    go_wp2_with (first
      | (go_at_call 17; refine HM.out.mono ?_; rintro e w2 ⟨rfl, hb2⟩)
      | (go_at_call 35; refine (HP.out _ hb2).mono ?_; rintro e w3 ⟨rfl, hf3, hk3, _⟩)
      | fail)
    go_ret
    exact ⟨rfl, fun h => absurd h hz, fun _ => hf3, (H.out.1.keep hb2).trans hk3⟩
theorem pw_pl {F : Fs} (h : F.pw ≠ 0) : F.pl = true := by
  cases hp : F.pl with
  | true => rfl
  | false => exact absurd (by unfold Fs.pw planF; rw [if_pos hp]) h
theorem pl_pln {F : Fs} (h : F.pl = false) : F.pln.pl = false := by
  unfold Fs.pln planF
  rw [if_pos h]
theorem pw_pl2 {F : Fs} {n b : Nat} (h : (F.add n b).pw ≠ 0) : F.pl = true := by
  have h1 := pw_pl h
  cases hp : F.pl with
  | true => rfl
  | false => exact absurd (h1.symm.trans (pl_pln hp)) (by decide)
theorem pl_two {F : Fs} {n b : Nat} (h : F.pl = false) : (((F.add n b).pln.old n b).np).pl = false := pl_pln (F := F.add n b) (pl_pln h)
/-- A log's box. -/
def logC (fb n : Nat) : Obj := .cells #[.pointer (some ⟨fb, 0, none⟩), .string (segS n)] 57 (0, 0)
/-- A file system on which a start has failed. -/
structure StaBad (F F' : Fs) (n : Nat) : Prop where
  lo : F'.lo = F.lo
  fb : F'.fb = F.fb
  om : F'.om = F.om
  fd : ∀ b, F.Is b → F'.fd b = F.fd b
  pd : F'.pd = none ∨ ∃ b, F'.pd = some (n, b)
  pl : F.pl = true
/-- A file system on which a start went well. -/
structure StaOk (F F' : Fs) (n b : Nat) : Prop where
  lo : F'.lo = F.lo
  fb : F'.fb = F.fb
  om : F'.om = upd F.om n b
  dm : F'.dm = upd F.dm n b
  fd : F'.fd = fun x => if x = b then ([], 0) else F.fd x
  pd : F'.pd = none
  isn : ¬ F.Is b
  pl : F.pl = false → F'.pl = false
  room : F'.room = F.room
def StaR (F : Fs) (q n : Nat) (w : World) (e : Ending) (w' : World) : Prop :=
  (∃ (r : Int) (F' : Fs), r ≠ 0 ∧ e = .returned (.tuple #[.pointer none, .int .i64 r]) ∧ FsAt F' (q + 2) w' ∧ KeepFs F.lo w w' ∧ StaBad F F' n) ∨
  ∃ (l b : Nat) (F' : Fs), e = .returned (.tuple #[.pointer (some ⟨l, 0, none⟩), .int .i64 0]) ∧ w'.heap[l]? = some (logC F.fb n) ∧ FsAt F' (q + 2) w' ∧ KeepFs F.lo w w' ∧ StaOk F F' n b
theorem sta_bad {F : Fs} {q n : Nat} {r : Int} {w w' : World} {F' : Fs} (hr : r ≠ 0) (h : FsAt F' (q + 2) w') (hk : KeepFs F.lo w w') (hb : StaBad F F' n) : StaR F q n w (.returned (.tuple #[.pointer none, .int .i64 r])) w' := .inl ⟨r, F', hr, rfl, h, hk, hb⟩
theorem sta_ok {F : Fs} {q n b l : Nat} {w w' : World} {F' : Fs} (hl : w'.heap[l]? = some (logC F.fb n)) (h : FsAt F' (q + 2) w') (hk : KeepFs F.lo w w') (hb : StaOk F F' n b) : StaR F q n w (.returned (.tuple #[.pointer (some ⟨l, 0, none⟩), .int .i64 0])) w' := .inr ⟨l, b, F', rfl, hl, h, hk, hb⟩
set_option maxRecDepth 100000 in
set_option maxHeartbeats 8000000 in
theorem start_c {w : World} {F : Fs} {q n : Nat} (h : FsAt F q w) (hp : F.pd = none) (hn : F.dm n = none) (h1 : 1 ≤ n) (h2 : n ≤ 7) (hq : q < 200) :
    Calls Tryd.prog 7 #[.pointer (some ⟨F.fb, 0, none⟩), .int .i64 n] w (StaR F q n w) := by
  have HC := Aside0.mk (create_c h hp hn h1 h2 hq)
  have HS := Aside0.mk (fun (W : World) (b : Nat) (hW : FsAt (F.add n b) (q + 1) W) => syncdir_c (n := n) (b := b) hW rfl (by omega))
  have HN := Aside0.mk (fun w : World => name_c (w := w) h1 h2)
  have t0 := seg_full h1 h2
  have H := Aside0.mk h
  have HQ := Aside0.mk hp
  obtain ⟨r, hr⟩ : ∃ r, r = F.pw := ⟨_, rfl⟩
  unfold CreR at HC
  rw [← hr] at HC
  have HPW := Aside0.mk hr
  clear h hp hn h1 h2 hq hr
  by_cases hz : r = 0
  · subst hz
    go_enter Tryd.func7, Tryd.ntmps7
    go_wp2_with (first
      | (go_at_call 18; refine (HN.out _).mono ?_; rintro e w1 ⟨rfl, rfl⟩)
      | (go_at_call 19; refine HC.out.mono ?_; rintro e w2 ⟨b, rfl, hf2, _, hk2, hI⟩
         have hf2 := hf2 (by simp)
         have HSB := Aside0.mk (HS.out w2 b hf2)
         obtain ⟨r2, hr2⟩ : ∃ r, r = (F.add n b).pw := ⟨_, rfl⟩
         unfold SdR at HSB
         rw [← hr2] at HSB
         have HPW2 := Aside0.mk hr2
         clear hr2
         have HF2 := Aside0.mk (And.intro hf2 (And.intro hk2 hI))
         clear hf2 hk2 hI)
      | fail)
    by_cases hy : r2 = 0
    · subst hy
      go_wp2_with (first
        | (go_at_call 20; refine HSB.out.mono ?_; rintro e w3 ⟨rfl, hf3, _, hk3⟩)
        | fail)
      go_ret2
      have hf3' := hf3 (by simp)
      exact sta_ok (b := b) (F' := ((F.add n b).pln.old n b).np) (al_new rfl) (hf3'.below ((Below.refl _ _).alloc (Nat.le_refl _) _)) ((HF2.out.2.1.trans hk3).trans (hf3'.keep ((Below.refl _ _).alloc (Nat.le_refl _) _))) ⟨rfl, rfl, rfl, rfl, rfl, rfl, HF2.out.2.2, pl_two, rfl⟩
    · have t1 : decide (r2 = 0) = false := decide_eq_false hy
      have t2 : (r2 == 0) = false := by simp [hy]
      have t3 : (r2 != 0) = true := by simp [hy]
      go_wp2_with (first
        | (go_at_call 20; refine HSB.out.mono ?_; rintro e w3 ⟨rfl, _, hf3, hk3⟩)
        | fail)
      go_ret2
      refine sta_bad (F' := (F.add n b).pln) hy ((hf3 hy).mono (by omega)) (HF2.out.2.1.trans hk3) ⟨rfl, rfl, rfl, fun x hx => ?_, .inr ⟨b, rfl⟩, pw_pl2 (b := b) (n := n) (by rw [← HPW2.out]; exact hy)⟩
      show (if x = b then ([], 0) else F.fd x) = F.fd x
      rw [if_neg (fun e => HF2.out.2.2 (by rw [← e]; exact hx))]
  · have t1 : decide (r = 0) = false := decide_eq_false hz
    have t2 : (r == 0) = false := by simp [hz]
    have t3 : (r != 0) = true := by simp [hz]
    go_enter Tryd.func7, Tryd.ntmps7
    go_wp2_with (first
      | (go_at_call 18; refine (HN.out _).mono ?_; rintro e w1 ⟨rfl, rfl⟩)
      | (go_at_call 19; refine HC.out.mono ?_; rintro e w2 ⟨b, rfl, _, hf2, hk2, hI⟩)
      | fail)
    go_ret2
    exact sta_bad hz ((hf2 hz).mono (by omega)) hk2 ⟨rfl, rfl, rfl, fun _ _ => rfl, .inl HQ.out, pw_pl (by rw [← HPW.out]; exact hz)⟩
end Go.Proofs.YtnmiipcoojijiaaDoor.Top
