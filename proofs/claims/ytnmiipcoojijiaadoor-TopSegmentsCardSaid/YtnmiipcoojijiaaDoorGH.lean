/-
  simfs: what Crash asks of maps and files; conditions: those that each theorem states.
-/
import Derived.Test.YtnmiipcoojijiaaDoorGG
namespace Go.Proofs.YtnmiipcoojijiaaDoor.Top
set_option linter.unusedSimpArgs false
set_option linter.unusedVariables false
open Go.RowKit Go.Proofs.YtnmiipcoojijiaaDoorW.PrintWords Go.Proofs.YtnmiipcoojijiaaDoorW.PrintLast Go.Proofs.YtnmiipcoojijiaaDoorW.PrintMore Go.Proofs.YtnmiipcoojijiaaDoor.Plain Go.Proofs.YtnmiipcoojijiaaDoor.Fns Go.Maps Go.ChangeMaps
theorem MapAt.clear {W : World} {mb k : Nat} {m : Nat → Option Nat} (h : MapAt W mb k m) (ty : TypeId) :
    ∃ W2, (Builtin.clear_ #[47] ty #[.map (some mb)]).run Tryd.prog W = .ok (.tuple #[]) W2 ∧ MapAt W2 mb 0 nob ∧ W.grownBy W2 (some mb) ∧ W2.heap.size = W.heap.size := by
  obtain ⟨D, ⟨es, clock, hb, _⟩, _⟩ := h
  refine ⟨setBlock W mb (.map #[] clock), ?_, ⟨.map [], ⟨#[], clock, heap_setBlock_same hb _, ⟨by simp, MapKept.stamped_empty clock, by simp⟩, Nat.le_refl _, rfl⟩, NamesD.none⟩, ⟨rfl, rfl, rfl, by simp [setBlock], fun i _ hi => heap_setBlock_other hb _ (fun e => hi (by rw [e]))⟩, by simp [setBlock]⟩
  simp [Builtin.clear_, run_underlying Tryd.underlying47, MapKept.run_getObj_map hb, MapKept.run_setObj_map _ hb, Result.andThen, setBlock]
/-- The names that have come: of the directory that is synced, those that are not still to come. -/
def came (om : Nat → Option Nat) (left : Lit → Bool) : Nat → Option Nat := fun n => if left (segK n) = true then none else om n
theorem came_start {D : DataW Value} {om : Nat → Option Nat} (h : NamesD D om) : came om (has D) = nob := funext fun n => by
  unfold came nob
  cases hn : om n with
  | none => split <;> rfl
  | some b => rw [if_pos (h.all n b hn).2.2.1]
theorem came_step {D : DataW Value} {om : Nat → Option Nat} (h : NamesD D om) {left : Lit → Bool} {j f : Nat} (hj : om j = some f) : upd (came om left) j f = came om (fun z => left z && !z.sameKey (segK j)) := funext fun n => by
  obtain ⟨h1, h2, _⟩ := h.all j f hj
  by_cases e : n = j
  · subst e
    rw [upd_same]
    unfold came
    rw [if_neg (by simp [sameK]), hj]
  · rw [upd_other e]
    unfold came
    cases hn : om n with
    | none => split <;> split <;> rfl
    | some b =>
      obtain ⟨n1, n2, _⟩ := h.all n b hn
      show (if left (segK n) = true then none else some b) = if (left (segK n) && !(segK n).sameKey (segK j)) = true then none else some b
      rw [sameK_ne n1 n2 h1 h2 e]
      simp
theorem came_end {om : Nat → Option Nat} {left : Lit → Bool} (h : ∀ k, left k = false) : came om left = om := funext fun n => by
  unfold came
  rw [if_neg (by rw [h]; simp)]
/-- A file behind a crash: cut behind what was synced. -/
def Cut (p p' : List Int × Nat) : Prop := ∃ t, p.2 ≤ t ∧ t ≤ p.1.length ∧ p'.1 = p.1.take t ∧ p.2 ≤ p'.2 ∧ p'.2 ≤ t
theorem Cut.refl {p : List Int × Nat} (h : p.2 ≤ p.1.length) : Cut p p := ⟨p.1.length, h, Nat.le_refl _, by simp, Nat.le_refl _, h⟩
theorem Cut.trans {p p' p'' : List Int × Nat} (h : Cut p p') (k : Cut p' p'') : Cut p p'' := by
  obtain ⟨t, h1, h2, h3, h4, h5⟩ := h
  obtain ⟨t', k1, k2, k3, k4, k5⟩ := k
  rw [h3, List.length_take] at k2
  exact ⟨t', by omega, by omega, by rw [k3, h3, List.take_take, Nat.min_eq_left (by omega)], by omega, k5⟩
/-- The directory turns into another one of the same files. -/
theorem FsAt.dir {F : Fs} {q q' : Nat} {W W1 : World} {m : Nat → Option Nat} (h : FsAt F q W) (hg : W.grownBy W1 (some F.db)) (hm : MapAt W1 F.db q' m) (hq : q ≤ q') (hs : ∀ n b, m n = some b → F.Is b) (hp : F.pd = none) : FsAt { F with dm := m } q' W1 ∧ KeepFs F.lo W W1 := by
  have hk : KeepFs F.lo W W1 := KeepFs.grown hg h.lo_le h.l2 (.inl h.dmp.isMap)
  obtain ⟨vp, h1, h2⟩ := h.box
  obtain ⟨n1, n2, n3⟩ := h.fb_ne
  have hIs : ∀ x, ({ F with dm := m } : Fs).Is x → F.Is x := fun x hx => by
    rcases hx with ⟨j, hj⟩ | hx | hx
    · exact hs j x hj
    · exact .inr (.inl hx)
    · exact .inr (.inr hx)
  exact ⟨⟨⟨vp, ⟨(hg.block _ (blk_lt h1.b) (by simp; exact n1)).trans h1.b⟩, h2.move hk⟩, hm, (h.omp.move (hg.block _ h.omp.lt (by simp; exact fun e => h.ne e.symm))).mono hq, h.ne, fun x hx => (h.files x (hIs x hx)).move hk (hg.block _ (h.files x (hIs x hx)).lt (by simp; exact fun e => (n3 x (hIs x hx)).2.1 e.symm)), h.pdn, h.hr, h.ha, h.l1, h.l2, h.l3, fun x hx => h.l4 x (hIs x hx)⟩, hk⟩
/-- No failure is planned. -/
theorem FsAt.calm {F : Fs} {q : Nat} {W : World} (h : FsAt F q W) : FsAt { F with pl := false } q (W.setCell ⟨F.fb, 4, none⟩ (.bool false)) ∧ KeepFs F.lo W (W.setCell ⟨F.fb, 4, none⟩ (.bool false)) := by
  obtain ⟨vp, hbx, hpd⟩ := h.box
  have hgr : W.grownBy (W.setCell ⟨F.fb, 4, none⟩ (.bool false)) (some F.fb) := ⟨rfl, rfl, rfl, by simp, fun k hk hne => Below.heap_setCell _ _ _ _ (fun e => hne (by rw [show k = F.fb from e]))⟩
  have hk : KeepFs F.lo W (W.setCell ⟨F.fb, 4, none⟩ (.bool false)) := KeepFs.grown hgr h.lo_le h.l1 (.inr (.inl ⟨_, _, _, hbx.b, .inl rfl⟩))
  exact h.put (F' := { F with pl := false }) hgr rfl ⟨vp, ⟨blk_put hbx.b 4 (.bool false) rfl⟩, hpd.move hk⟩ h.ha (.inl rfl)
/-- What settle leaves behind a crash: as many acts as were let. -/
def setO (F : Fs) (k : Nat) : Nat → Option Nat := match F.pd with | some (n, b) => if k = 0 then F.om else upd F.om n b | none => F.om
theorem settle_k {w : World} {F : Fs} {q k : Nat} (h : FsAt F q w) (hk : k ≤ 1) (hp : F.pd = none → k = 0) (hq : q < 500) : Calls Tryd.prog 25 #[.pointer (some ⟨F.fb, 0, none⟩), .int .i64 k] w (SetR F { F.np with om := setO F k } (q + 1) w) := by
  have h01 : k = 0 ∨ k = 1 := by omega
  rcases h01 with rfl | rfl
  · have e : setO F 0 = F.om := by
      unfold setO
      cases F.pd with
      | none => rfl
      | some p => obtain ⟨n, b⟩ := p; rfl
    rw [e]
    exact (settle0 h).mono fun e w' ⟨h1, h2, h3⟩ => ⟨h1, h2.mono (Nat.le_succ _), h3⟩
  · cases hpd : F.pd with
    | none => exact absurd (hp hpd) (by omega)
    | some p =>
      obtain ⟨n, b⟩ := p
      have e : setO F 1 = upd F.om n b := by
        unfold setO
        rw [hpd]
        rfl
      rw [e]
      exact settle1 h hpd hq
end Go.Proofs.YtnmiipcoojijiaaDoor.Top
namespace Go.Proofs.YtnmiipcoojijiaaDoor.Top
set_option linter.unusedSimpArgs false
set_option linter.unusedVariables false
open Go.RowKit Go.Proofs.YtnmiipcoojijiaaDoorW.PrintWords Go.Proofs.YtnmiipcoojijiaaDoorW.PrintLast Go.Proofs.YtnmiipcoojijiaaDoorW.PrintMore Go.Proofs.YtnmiipcoojijiaaDoor.Plain Go.Proofs.YtnmiipcoojijiaaDoor.Fns Go.Maps
theorem FsAt.c1 {F : Fs} {q : Nat} {W : World} (h : FsAt F q W) : W.cell? ⟨F.fb, 1, none⟩ = some (.map (some F.db)) := by
  obtain ⟨vp, hb, _⟩ := h.box
  exact (blk_cell hb.b 1).trans rfl
theorem FsAt.c2 {F : Fs} {q : Nat} {W : World} (h : FsAt F q W) : W.cell? ⟨F.fb, 2, none⟩ = some (.map (some F.ob)) := by
  obtain ⟨vp, hb, _⟩ := h.box
  exact (blk_cell hb.b 2).trans rfl
theorem FsAt.c4 {F : Fs} {q : Nat} {W : World} (h : FsAt F q W) : W.cell? ⟨F.fb, 4, none⟩ = some (.bool F.pl) ∧ W.frozen? ⟨F.fb, 4, none⟩ = false := by
  obtain ⟨vp, hb, _⟩ := h.box
  exact ⟨(blk_cell hb.b 4).trans rfl, blk_frozen hb.b 4⟩
/-- Another object turns. -/
theorem FsAt.other {F : Fs} {q r : Nat} {W W1 : World} (h : FsAt F q W) (hg : W.grownBy W1 (some r)) (hlo : F.lo ≤ r) (hr : (∀ cs e fz, W.heap[r]? ≠ some (.cells cs e fz)) ∧ ∀ es c, W.heap[r]? ≠ some (.map es c)) : FsAt F q W1 ∧ KeepFs F.lo W W1 := by
  have hc : ∀ (k : Nat) (cs : Array Value) (e : TypeId) (fz : Nat × Nat), W.heap[k]? = some (.cells cs e fz) → W1.heap[k]? = W.heap[k]? := fun k cs e fz hk => hg.block k (blk_lt hk) (fun e0 => by cases e0; exact hr.1 _ _ _ hk)
  have hm : ∀ (k : Nat) (es : Array MapEntry) (c : Nat), W.heap[k]? = some (.map es c) → W1.heap[k]? = W.heap[k]? := fun k es c hk => hg.block k (blk_lt hk) (fun e0 => by cases e0; exact hr.2 _ _ hk)
  have hk : KeepFs F.lo W W1 := ⟨⟨hg.os, hg.tape, hg.output, hg.size, fun k hk => hg.block k (Nat.lt_of_lt_of_le hk h.lo_le) (fun e => by injection e with e; omega)⟩, fun k cs e hk _ _ => hc k _ _ _ hk⟩
  obtain ⟨vp, hb, hpd⟩ := h.box
  refine ⟨⟨⟨vp, ⟨(hc _ _ _ _ hb.b).trans hb.b⟩, hpd.move hk⟩, ?_, ?_, h.ne, fun b hI => ?_, h.pdn, h.hr, h.ha, h.l1, h.l2, h.l3, h.l4⟩, hk⟩
  · obtain ⟨es, c, hd⟩ := h.dmp.isMap
    exact h.dmp.move (hm _ _ _ hd)
  · obtain ⟨es, c, ho⟩ := h.omp.isMap
    exact h.omp.move (hm _ _ _ ho)
  · have hf := h.files b hI
    obtain ⟨A, c, h1, _⟩ := hf
    exact (h.files b hI).move hk (hc _ _ _ _ h1)
theorem iter_not {W : World} {P : Program} {k : TypeId} {R : Value → Option (DataW Value × List MemPlace)} {b r n : Nat} {D : DataW Value} {left : Lit → Bool} {cnt : Nat} (h : W.ranges P k R b r n D left cnt) : (∀ cs e fz, W.heap[r]? ≠ some (.cells cs e fz)) ∧ ∀ es c, W.heap[r]? ≠ some (.map es c) := by
  obtain ⟨es, clock, since, seen, c0, _, _, _, _, hr, _⟩ := h
  exact ⟨fun cs e fz hx => (by rw [hr] at hx; cases hx), fun es c hx => (by rw [hr] at hx; cases hx)⟩
/-- The file system while the directory comes anew. -/
def mid (F : Fs) (k : Nat) (left : Lit → Bool) : Fs := { F.np with om := setO F k, pl := false, dm := came (setO F k) left }
structure CopyI (F : Fs) (D : DataW Value) (k q rb : Nat) (w : World) (left : Lit → Bool) (cnt : Nat) (W : World) : Prop where
  fs : FsAt (mid F k left) q W
  rg : W.ranges Tryd.prog 9 Rp F.ob rb q D left cnt
  dm : ∃ kd, MapAt W F.db kd (came (setO F k) left) ∧ kd + cnt ≤ q
  kp : KeepFs F.lo w W
theorem CopyI.step {F : Fs} {D : DataW Value} {k q rb j f cnt cnt' : Nat} {w W W1 : World} {left : Lit → Bool} (h : CopyI F D k q rb w left cnt W) (hD : NamesD D (setO F k)) (hj : setO F k j = some f) (hrb : F.lo ≤ rb) (hq : q < 900)
    (hrg : W1.ranges Tryd.prog 9 Rp F.ob rb q D (fun z => left z && !z.sameKey (segK j)) cnt') (hlt : cnt' < cnt) (hg : W.grownBy W1 (some rb)) :
    W1.cell? ⟨F.fb, 1, none⟩ = some (.map (some F.db)) ∧ ∃ W2, (Instr.mapUpdate 47 (.map (some F.db)) (.string (segS j)) (.pointer (some ⟨f, 0, none⟩))).run Tryd.prog W1 = .ok () W2 ∧ CopyI F D k q rb w (fun z => left z && !z.sameKey (segK j)) cnt' W2 := by
  obtain ⟨h1, hk1⟩ := h.fs.other hg hrb (iter_not h.rg)
  obtain ⟨kd, hm, hkd⟩ := h.dm
  obtain ⟨j1, j7, _, _⟩ := hD.all j f hj
  obtain ⟨es, c, hmb⟩ := hm.isMap
  have hm1 := hm.move (hg.block _ hm.lt (fun e => (iter_not h.rg).2 es c (by injection e with e; rw [← e]; exact hmb)))
  obtain ⟨W2, hup, hm2, hg2, _⟩ := hm1.store j1 j7 (by omega) f
  rw [came_step hD hj] at hm2
  have hne : F.ob ≠ F.db := fun e => h.fs.ne e.symm
  obtain ⟨h2, hk2⟩ := h1.dir (q' := q) hg2 (hm2.mono (by omega)) (Nat.le_refl _) (fun n b hn => .inr (.inl ⟨n, by
    unfold came at hn
    split at hn
    · cases hn
    · exact hn⟩)) rfl
  refine ⟨h1.c1, W2, hup, h2, hrg.kept hg2 (by simp; exact hne) (by simp; intro e; subst e; exact (iter_not h.rg).2 es c hmb), ⟨kd + 1, hm2, by omega⟩, (h.kp.trans hk1).trans hk2⟩
/-- The file system while files are cut. -/
structure CutI (F2 F' : Fs) (N q g : Nat) (ss : List ByteArray) (w W : World) : Prop where
  fs : FsAt F' q W
  eq : F' = { F2 with fd := F'.fd }
  cut : ∀ b, F2.Is b → Cut (F2.fd b) (F'.fd b)
  kp : KeepFs N w W
  sr : SR W g ss
theorem CutI.step {F2 F' : Fs} {N q g b c t : Nat} {ss : List ByteArray} {w W : World} {A : Option Addr} (h : CutI F2 F' N q g ss w W) (hN : F2.lo = N) (hI : F2.Is b) (hbk : W.heap[b]? = some (.cells #[.slice A (F'.fd b).1.length c, .int .i64 (F'.fd b).2] 68 (0, 0)))
    (h1 : (F'.fd b).2 ≤ t) (h2 : t ≤ (F'.fd b).1.length) : CutI F2 (F'.setF b ((F'.fd b).1.take t) t) N q g ss w ((W.setCell ⟨b, 0, none⟩ (.slice A t t)).setCell ⟨b, 1, none⟩ (.int .i64 t)) := by
  have hI' : F'.Is b := by rw [h.eq]; exact hI
  have hlo : F'.lo = N := by rw [h.eq]; exact hN
  have hgr : W.grownBy ((W.setCell ⟨b, 0, none⟩ (.slice A t t)).setCell ⟨b, 1, none⟩ (.int .i64 t)) (some b) := grown_set (grown_set ⟨rfl, rfl, rfl, Nat.le_refl _, fun _ _ _ => rfl⟩ _ _) _ _
  have hk : KeepFs F'.lo W ((W.setCell ⟨b, 0, none⟩ (.slice A t t)).setCell ⟨b, 1, none⟩ (.int .i64 t)) := KeepFs.grown hgr h.fs.lo_le (h.fs.l4 b hI') (.inr (.inl ⟨_, _, _, hbk, .inr rfl⟩))
  obtain ⟨A', c', hbk', hrd, hlc, hsl, hmx, hty⟩ := h.fs.files b hI'
  rw [hbk] at hbk'
  simp only [Option.some.injEq, Obj.cells.injEq, Array.mk.injEq, List.cons.injEq, Value.slice.injEq] at hbk'
  obtain ⟨⟨⟨rfl, _, rfl⟩, _⟩, _⟩ := hbk'
  have hlen : ((F'.fd b).1.take t).length = t := by rw [List.length_take]; omega
  have hA0 : A = none → t = 0 := fun e => by
    have := hlc.2 e
    have := hlc.1
    omega
  obtain ⟨r1, r2⟩ := h.fs.setF (b := b) (d := (F'.fd b).1.take t) (s := t) hI' hgr ⟨A, t, by rw [hlen]; exact blk_put (blk_put hbk 0 _ rfl) 1 _ rfl, hk.rdb (rdb_take hrd t) hty, ⟨by omega, hA0⟩, by omega, by omega, fun a ha => by
    obtain ⟨cs, hcs⟩ := hty a ha
    exact ⟨cs, (hk.ty _ _ _ hcs (by decide) (by decide)).trans hcs⟩⟩
  refine ⟨r1, ?_, fun x hx => ?_, h.kp.trans (by rw [← hlo]; exact hk), fun h0 => ?_⟩
  · unfold Fs.setF
    rw [h.eq]
  · have hx0 := h.cut x hx
    show Cut (F2.fd x) (if x = b then ((F'.fd b).1.take t, t) else F'.fd x)
    by_cases e : x = b
    · subst e
      rw [if_pos rfl]
      exact hx0.trans ⟨t, h1, h2, rfl, h1, Nat.le_refl _⟩
    · rw [if_neg e]
      exact hx0
  · obtain ⟨cs, s1, s2⟩ := h.sr h0
    exact ⟨cs, (hk.ty _ _ _ s1 (by decide) (by decide)).trans s1, s2⟩
theorem crash_turn {F2 F' : Fs} {N q g b c t L s nq : Nat} {ss : List ByteArray} {w W : World} {A : Option Addr} (h : CutI F2 F' N q g ss w W) (hbk : W.heap[b]? = some (.cells #[.slice A L c, .int .i64 s] 68 (0, 0))) (hI : F2.Is b)
    (hL : (F'.fd b).1.length = L) (hs : (F'.fd b).2 = s) (ht : s ≤ t ∧ t ≤ L) (hN : F2.lo = N) : CutI F2 (F'.setF b ((F'.fd b).1.take t) t) N q g ss w (((W.drewN nq).setCell ⟨b, 0, none⟩ (.slice A t t)).setCell ⟨b, 1, none⟩ (.int .i64 t)) := by
  subst hL
  subst hs
  have h1 : CutI F2 F' N q g ss w (W.drewN nq) := ⟨h.fs.below (bdrewN (Below.refl _ W)), h.eq, h.cut, ⟨bdrewN h.kp.be, h.kp.ty⟩, h.sr.move rfl⟩
  exact h1.step hN hI hbk ht.1 ht.2
/-- What a crash makes of a file system. -/
structure CrashS (F F' : Fs) (k : Nat) : Prop where
  lo : F'.lo = F.lo
  fb : F'.fb = F.fb
  dm : F'.dm = setO F k
  om : F'.om = setO F k
  pd : F'.pd = none
  fd : ∀ n b, setO F k n = some b → Cut (F.fd b) (F'.fd b)
def CrashR (F : Fs) (q : Nat) (w : World) (e : Ending) (w' : World) : Prop :=
  ∃ (F' : Fs) (k q' : Nat), e = .returned (.int .i64 0) ∧ FsAt F' q' w' ∧ KeepFs F.lo w w' ∧ CrashS F F' k
/-- The numbers of bytes to keep, as a row that is read. -/
def Keeps (N : Nat) (w : World) (K : Option Addr) (ks : List Int) : Prop := ∃ kb ko, (ks ≠ [] → K = some ⟨kb, ko, none⟩) ∧ ∀ W, Below N w W → ∀ j (hj : j < ks.length), W.cell? ⟨kb, ko + j, none⟩ = some (.int .i64 ks[j])
/-- From settle to the loop over what was synced. -/
theorem crash_mid {F : Fs} {k q : Nat} {w3 : World} (h : FsAt { F.np with om := setO F k } q w3) (hp : True = True) : ∃ w5 D, w3.cell? ⟨F.fb, 4, none⟩ = some (.bool F.pl) ∧ w3.frozen? ⟨F.fb, 4, none⟩ = false ∧ (w3.setCell ⟨F.fb, 4, none⟩ (.bool false)).cell? ⟨F.fb, 1, none⟩ = some (.map (some F.db)) ∧
    (Builtin.clear_ #[47] 0 #[.map (some F.db)]).run Tryd.prog (w3.setCell ⟨F.fb, 4, none⟩ (.bool false)) = .ok (.tuple #[]) w5 ∧ w5.cell? ⟨F.fb, 2, none⟩ = some (.map (some F.ob)) ∧
    FsAt { F.np with om := setO F k, pl := false, dm := nob } q w5 ∧ KeepFs F.lo w3 w5 ∧ MapAt w5 F.db 0 nob ∧ w5.ownsMap Tryd.prog 9 Rp F.ob q D ∧ NamesD D (setO F k) := by
  obtain ⟨c4, f4⟩ := h.c4
  obtain ⟨hf4, hk4⟩ := h.calm
  obtain ⟨w5, hclear, hm5, hg5, _⟩ := hf4.dmp.clear 0
  obtain ⟨hf5, hk5⟩ := hf4.dir hg5 (hm5.mono (Nat.zero_le q)) (Nat.le_refl _) (fun n b hn => by cases hn) rfl
  obtain ⟨D, hO, hD⟩ := hf5.omp
  exact ⟨w5, D, c4, f4, hf4.c1, hclear, hf5.c2, hf5, hk4.trans hk5, hm5, hO, hD⟩
set_option maxRecDepth 100000 in
set_option maxHeartbeats 8000000 in
theorem crash_c {w : World} {F : Fs} {q : Nat} {ops : Int} {K : Option Addr} {kc : Nat} {ks : List Int} (h : FsAt F q w) (hq : q < 200) (hK : Keeps F.lo w K ks) (hkl : ks.length ≤ 100) :
    Calls Tryd.prog 11 #[.pointer (some ⟨F.fb, 0, none⟩), .int .i64 ops, .slice K ks.length kc] w (CrashR F q w) := by
  have HM : Aside0 (Calls Tryd.prog 17 #[.pointer (some ⟨F.fb, 0, none⟩)] w fun e w' => e = .returned (.bool true) ∧ Below w.heap.size w w') := by
    obtain ⟨vp, hb, hpd⟩ := h.box
    exact ⟨made_c hb h.hr⟩
  obtain ⟨L, hL1, hLn, hLv⟩ : ∃ L : Nat, L ≤ 1 ∧ (F.pd = none → L = 0) ∧ ∀ vp, PendAt w vp F.pd → ∃ A c, vp = .slice A L c := by
    cases hp : F.pd with
    | none => exact ⟨0, by omega, fun _ => rfl, fun vp h => ⟨none, 0, h⟩⟩
    | some p =>
      obtain ⟨n, b⟩ := p
      exact ⟨1, by omega, fun e => (by cases e), fun vp h => by obtain ⟨g, c, hv, _⟩ := h; exact ⟨_, c, hv⟩⟩
  obtain ⟨mn, hmn⟩ : ∃ mn : Int, (if (L : Int) < ops then (L : Int) else ops) = mn := ⟨_, rfl⟩
  have hmL : mn ≤ (L : Int) := by
    rw [← hmn]
    split <;> omega
  obtain ⟨k, hkm⟩ : ∃ k : Nat, (if mn < 0 then (0 : Int) else mn) = (k : Int) := by
    by_cases hm : mn < 0
    · exact ⟨0, by rw [if_pos hm]; rfl⟩
    · exact ⟨mn.toNat, by rw [if_neg hm]; omega⟩
  have hkL : k ≤ L := by
    by_cases hm : mn < 0
    · rw [if_pos hm] at hkm; omega
    · rw [if_neg hm] at hkm; omega
  have HS := Aside0.mk (fun (W : World) (hB : Below w.heap.size w W) => settle_k (k := k) (h.below hB) (by omega) (fun hp => by have := hLn hp; omega) (by omega))
  have HB3 : Aside0 (∀ W, Below w.heap.size w W → ∃ A c, W.cell? ⟨F.fb, 3, none⟩ = some (.slice A L c)) := by
    obtain ⟨vp, hpd, c3, _⟩ := h.box3
    obtain ⟨A, c, rfl⟩ := hLv vp hpd
    exact ⟨fun W hB => ⟨A, c, cell_below hB c3⟩⟩
  have H := Aside0.mk h
  have HKK := Aside0.mk (And.intro hK (And.intro hkl hq))
  clear h hL1 hLn hLv hmL hkL hK hkl hq
  go_enter Tryd.func11, Tryd.ntmps11
  go_wp2_with (first
    | (go_at_call 17; refine HM.out.mono ?_; rintro e w2 ⟨rfl, hb2⟩
       obtain ⟨A3, c3', c3⟩ := HB3.out w2 hb2)
    | (go_at_call 25; refine (HS.out w2 hb2).mono ?_; rintro e w3 ⟨rfl, hf3, hk3⟩
       obtain ⟨w5, D, y4, z4, y1, hcl, y2, hf5, hk5, hm5, hO, hD⟩ := crash_mid hf3 rfl
       have HF5 := Aside0.mk (And.intro hf5 (And.intro (((H.out.keep hb2).trans hk3).trans hk5) hm5))
       have HO := Aside0.mk hO
       have HD := Aside0.mk hD
       clear hf3 hk3 hf5 hm5 hk5 hO hD)
    | (at_range
       refine wpList_range_own _ rfl _ 47 rfl 9 66 (string_keyed Tryd.underlying9) Tryd.underlying47 Rp F.ob (q + 1) D rfl HO.out ?_
       intro w6 hrg6 hg6 hs6)
    | fail)
  go_frame
  have hrb : F.lo ≤ w5.heap.size := HF5.out.1.lo_le
  have HI0 : Aside0 (CopyI F D k (q + 1) w5.heap.size w (has D) (Maps.size D) w6) := by
    have hb6 : Below w5.heap.size w5 w6 := ⟨hg6.os, hg6.tape, hg6.output, hg6.size, fun i hi => hg6.block i hi (by simp)⟩
    have h6 := HF5.out.1.below hb6
    have hm6 := HF5.out.2.2.move (hb6.block _ HF5.out.2.2.lt)
    have hsz := HO.out.size_le
    exact ⟨⟨by unfold mid; rw [came_start HD.out]; exact h6, hrg6, ⟨0, by rw [came_start HD.out]; exact hm6, by omega⟩, HF5.out.2.1.trans (HF5.out.1.keep hb6)⟩⟩
  generalize w5.heap.size = rb at *
  have HQ := Aside0.mk HKK.out.2.2
  clear hrg6 hg6 hs6 y1 y2 y4 z4 hcl c3 hmn hkm hb2
  go_loopw [7] (fun i wr => ∃ (left : Lit → Bool) (cnt : Nat), Aside0 (CopyI F D k (q + 1) rb w left cnt wr)) (fun _ wr => wr.rangeLeft F.ob rb)
  case atStart => exact ⟨_, _, HI0⟩
  case round =>
    clear HI0
    obtain ⟨left, cnt, HI⟩ := hrel
    go_wp2_with (first
      | (at_next; refine wpList_next_seg _ rfl _ rfl F.ob rb (q + 1) D (setO F k) left cnt HD.out rfl HI.out.rg ?_ ?_)
      | fail)
    · intro hc hl
      have hF2 : ∃ F2 : Fs, F2 = { F.np with om := setO F k, pl := false, dm := setO F k } := ⟨_, rfl⟩
      obtain ⟨F2, hF2⟩ := hF2
      have h2 : FsAt F2 (q + 1) wr := by
        have := HI.out.fs
        unfold mid at this
        rw [came_end hl, ← hF2] at this
        exact this
      have hfb : F2.fb = F.fb := by rw [hF2]; rfl
      have HLI := Aside0.mk (list_c h2)
      rw [hfb] at HLI
      have HKP := Aside0.mk (And.intro h2 (And.intro HI.out.kp (And.intro hF2 hfb)))
      clear h2 hF2 hfb hl hc
      go_wp2_with (first
        | (go_at_call 15; refine HLI.out.mono ?_; rintro e w7 ⟨R, g, n, c7, ss, rfl, hR, hS, hsn, hnm, hn7, _, hb7⟩)
        | fail)
      have HCI : Aside0 (CutI F2 F2 F.lo (q + 1) g ss w w7) := ⟨⟨HKP.out.1.below hb7, rfl, fun b hb => Cut.refl (by obtain ⟨A, c, _, _, _, hs, _⟩ := HKP.out.1.files b hb; exact hs), HKP.out.2.1.trans (by have := HKP.out.1.keep hb7; rw [show F2.lo = F.lo by rw [HKP.out.2.2.1]; rfl] at this; exact this), hS⟩⟩
      have HNM := Aside0.mk (And.intro hR (And.intro hsn hnm))
      clear hb7 hS hR hsn hnm
      go_loopw [53] (fun i wr => ∃ (j : Nat) (F' : Fs), i = .int .i64 j ∧ j ≤ n ∧ Aside0 (CutI F2 F' F.lo (q + 1) g ss w wr)) (fun i _ => n - (intOf i).toNat)
      case atStart => exact ⟨0, F2, rfl, by omega, HCI⟩
      case round =>
        clear HCI
        obtain ⟨j, F', rfl, hj, HC⟩ := hrel
        by_cases hlt : j < n
        · have t1 : decide (j < n) = true := decide_eq_true hlt
          have hjs : j < ss.length := by have := HNM.out.2.1; omega
          obtain ⟨nn, b, hnn, hsj⟩ := HNM.out.2.2 _ (List.getElem_mem hjs)
          obtain ⟨x0, _⟩ := HC.out.sr.cell hjs
          rw [hsj] at x0
          obtain rfl := HNM.out.1 (by omega)
          have hdm : F'.dm nn = some b := by rw [HC.out.eq]; exact hnn
          have hI2 : F2.Is b := .inl ⟨nn, hnn⟩
          obtain ⟨n1, n7⟩ : 1 ≤ nn ∧ nn ≤ 7 := by
            obtain ⟨D', _, hD'⟩ := HC.out.fs.dmp
            exact ⟨(hD'.all nn b hdm).1, (hD'.all nn b hdm).2.1⟩
          have hfb' : F'.fb = F.fb := by rw [HC.out.eq, HKP.out.2.2.1]; rfl
          have hdb' : F'.db = F.db := by rw [HC.out.eq, HKP.out.2.2.1]; rfl
          have y1 : wr.cell? ⟨F.fb, 1, none⟩ = some (.map (some F.db)) := by rw [← hfb', ← hdb']; exact HC.out.fs.c1
          have hlk := HC.out.fs.dmp.look n1 n7
          rw [hdm, hdb'] at hlk
          have hl : (Instr.lookup 47 (.map (some F.db)) (.string (segS nn)) false).run Tryd.prog wr = .ok (.pointer (some ⟨b, 0, none⟩)) wr := hlk
          obtain ⟨A, cb, hbk, hrd, hlc, hsl, hmx, hty⟩ := HC.out.fs.files b (by rw [HC.out.eq]; exact hI2)
          have HBK := Aside0.mk (And.intro hbk hI2)
          generalize hL9 : (F'.fd b).1.length = L9 at *
          generalize hs9 : (F'.fd b).2 = s9 at *
          have z0 : wr.cell? ⟨b, 0, none⟩ = some (.slice A L9 cb) := (blk_cell hbk 0).trans rfl
          have z1 : wr.cell? ⟨b, 1, none⟩ = some (.int .i64 s9) := (blk_cell hbk 1).trans rfl
          have f0 : wr.frozen? ⟨b, 0, none⟩ = false := blk_frozen hbk 0
          have f1 : wr.frozen? ⟨b, 1, none⟩ = false := blk_frozen hbk 1
          have HLS := Aside0.mk (And.intro hL9 (And.intro hs9 (And.intro hsl hmx)))
          have hcb := hlc.1
          have e1 : IntKind.i64.wrap ((L9 : Int) - (s9 : Int)) = ((L9 - s9 : Nat) : Int) := by rw [IntKind.wrap_i64]; omega
          have e2 : wrap64 ((L9 : Int) - (s9 : Int)) = ((L9 - s9 : Nat) : Int) := by unfold wrap64; omega
          have hd : ((L9 - s9 : Nat) : Int) = (L9 : Int) - (s9 : Int) := by omega
          generalize ((L9 - s9 : Nat) : Int) = d9 at *
          have hkv : ∃ kv : Int, 0 ≤ kv ∧ ((∃ hjk : j < ks.length, (if ks[j] < 0 then (0 : Int) else ks[j]) = kv) ∨ (¬ j < ks.length ∧ kv = 0)) := by
            by_cases hjk : j < ks.length
            · exact ⟨if ks[j] < 0 then (0 : Int) else ks[j], by split <;> omega, .inl ⟨hjk, rfl⟩⟩
            · exact ⟨0, by omega, .inr ⟨hjk, rfl⟩⟩
          obtain ⟨kv, hkv0, hkv⟩ := hkv
          obtain ⟨mv, hmv⟩ : ∃ mv : Int, (if d9 < kv then d9 else kv) = mv := ⟨_, rfl⟩
          have hmv0 : 0 ≤ mv ∧ mv ≤ d9 := by
            rw [← hmv]
            split <;> omega
          obtain ⟨tt, htt⟩ : ∃ tt : Nat, (s9 : Int) + mv = (tt : Int) := ⟨((s9 : Int) + mv).toNat, by omega⟩
          have e3 : IntKind.i64.wrap ((s9 : Int) + mv) = (tt : Int) := by rw [IntKind.wrap_i64]; omega
          have e4 : wrap64 ((s9 : Int) + mv) = (tt : Int) := by unfold wrap64; omega
          have g1 : tt ≤ cb := by omega
          have g2 : (tt : Int) ≤ (cb : Int) := by omega
          have HT := Aside0.mk (show s9 ≤ tt ∧ tt ≤ L9 from by omega)
          clear hbk hrd hlc hty hdm hnn hsj hI2 hlk hfb' hdb' hL9 hs9 hsl hmx hd hkv0 hmv0 htt hcb n1 n7 hjs
          rcases hkv with ⟨hjk, hkv⟩ | ⟨hjk, rfl⟩
          · obtain ⟨kb, ko, hKs, hKc⟩ := HKK.out.1
            obtain rfl := hKs (by intro e; rw [e] at hjk; simp at hjk)
            have k0 := hKc wr HC.out.kp.be j hjk
            clear hKs hKc
            generalize ks[j] = kz at *
            have t2 : decide (j < ks.length) = true := decide_eq_true hjk
            go_wp2_with fail
            go_quiet (fail)
            go_wp2_with fail
            go_roundw
            case rel => exact ⟨j + 1, _, by go_num, by omega, ⟨crash_turn HC.out HBK.out.1 HBK.out.2 HLS.out.1 HLS.out.2.1 HT.out (by rw [HKP.out.2.2.1]; rfl)⟩⟩
            case measure => simp [intOf]; omega
          · have t2 : decide (j < ks.length) = false := decide_eq_false hjk
            go_wp2_with fail
            go_quiet (fail)
            go_wp2_with fail
            go_roundw
            case rel => exact ⟨j + 1, _, by go_num, by omega, ⟨crash_turn HC.out HBK.out.1 HBK.out.2 HLS.out.1 HLS.out.2.1 HT.out (by rw [HKP.out.2.2.1]; rfl)⟩⟩
            case measure => simp [intOf]; omega
        · have t1 : decide (j < n) = false := decide_eq_false hlt
          go_wp2_with fail
          go_ret
          refine ⟨F', k, q + 1, rfl, HC.out.fs, HC.out.kp, ⟨by rw [HC.out.eq, HKP.out.2.2.1]; rfl, by rw [HC.out.eq, HKP.out.2.2.1]; rfl, by rw [HC.out.eq, HKP.out.2.2.1], by rw [HC.out.eq, HKP.out.2.2.1], by rw [HC.out.eq, HKP.out.2.2.1]; rfl, fun n2 b hb => ?_⟩⟩
          have h9 := HC.out.cut b (.inl ⟨n2, by rw [HKP.out.2.2.1]; exact hb⟩)
          rw [HKP.out.2.2.1] at h9
          exact h9
    · intro j f w3 cnt3 hj hlj hrg hlt hgr hsz hen
      obtain ⟨y1, w4, hup, hI4⟩ := HI.out.step HD.out hj hrb (by have := HQ.out; omega) hrg hlt hgr
      have HI4 := Aside0.mk hI4
      have HLT := Aside0.mk (And.intro hlt hI4.rg.left_eq)
      have HLE := Aside0.mk HI.out.rg.left_eq
      clear hI4 hrg hlt hgr hsz
      go_wp2_with fail
      go_roundw
      case rel => exact ⟨_, _, HI4⟩
      case measure => rw [HLT.out.2, HLE.out]; exact HLT.out.1
end Go.Proofs.YtnmiipcoojijiaaDoor.Top
