/-
  simfs: a file system in memory, find and Fail; conditions: those that each theorem states.
-/
import Derived.Test.YtnmiipcoojijiaaDoorGC
namespace Go.Proofs.YtnmiipcoojijiaaDoor.Top
set_option linter.unusedSimpArgs false
set_option linter.unusedVariables false
open Go.RowKit Go.Proofs.YtnmiipcoojijiaaDoorW.PrintWords Go.Proofs.YtnmiipcoojijiaaDoorW.PrintLast Go.Proofs.YtnmiipcoojijiaaDoorW.PrintMore Go.Proofs.YtnmiipcoojijiaaDoor.Plain Go.Proofs.YtnmiipcoojijiaaDoor.Fns Go.Maps
theorem bdrew {n : Nat} {w1 W : World} (h : Below n w1 W) : Below n w1 W.drew := ⟨h.os, h.tape, h.output, h.size, h.block⟩
theorem bdrewN {n k : Nat} {w1 W : World} (h : Below n w1 W) : Below n w1 (W.drewN k) := pw_below_drewN h k
theorem balloc {w1 W : World} {o : Obj} (h : Below w1.heap.size w1 W) : Below w1.heap.size w1 (W.alloc o) := h.alloc h.size o
theorem bset {n b i : Nat} {w1 W : World} {v : Value} (h : Below n w1 W) (hb : n ≤ b) : Below n w1 (W.setCell ⟨b, i, none⟩ v) := h.setCell (p := ⟨b, i, none⟩) hb v
theorem seg_full {n : Nat} (h : 1 ≤ n) (h2 : n ≤ 7) : (segS n).toList.isEmpty = false := by
  obtain rfl | rfl | rfl | rfl | rfl | rfl | rfl : n = 1 ∨ n = 2 ∨ n = 3 ∨ n = 4 ∨ n = 5 ∨ n = 6 ∨ n = 7 := by omega
  all_goals decide +kernel
/-- A file in memory: its bytes, how many of them are synced. -/
def FileAt (W : World) (b : Nat) (d : List Int) (s : Nat) : Prop :=
  ∃ A c, W.heap[b]? = some (.cells #[.slice A d.length c, .int .i64 s] 68 (0, 0)) ∧ RdB W A d ∧ (d.length ≤ c ∧ (A = none → c = 0)) ∧ s ≤ d.length ∧ d.length ≤ 1048576 ∧ ∀ a, A = some a → ∃ cs, W.heap[a.block]? = some (.cells cs 5 (0, 0))
/-- What is pending: nothing, or one name that a file got. -/
def PendAt (W : World) (v : Value) : Option (Nat × Nat) → Prop
  | none => v = .slice none 0 0
  | some (n, b) => ∃ g c, v = .slice (some ⟨g, 0, none⟩) 1 c ∧ 1 ≤ c ∧ (∃ cs, W.heap[g]? = some (.cells cs 83 (0, 0))) ∧ W.cell? ⟨g, 0, none⟩ = some (.string ⟨#[]⟩) ∧ W.cell? ⟨g, 1, none⟩ = some (.string (segS n)) ∧ W.cell? ⟨g, 2, none⟩ = some (ptrV b)
/-- A file system. -/
structure Fs where
  lo : Nat
  fb : Nat
  db : Nat
  ob : Nat
  room : Int
  dm : Nat → Option Nat
  om : Nat → Option Nat
  pd : Option (Nat × Nat)
  pl : Bool
  af : Int
  er : Int
  fd : Nat → List Int × Nat
/-- Is it one of the file system's files? -/
def Fs.Is (F : Fs) (b : Nat) : Prop := (∃ n, F.dm n = some b) ∨ (∃ n, F.om n = some b) ∨ ∃ n, F.pd = some (n, b)
/-- A file system in memory. -/
structure FsAt (F : Fs) (q : Nat) (W : World) : Prop where
  box : ∃ vp, FsB F.fb F.room (.map (some F.db)) (.map (some F.ob)) vp F.pl F.af F.er W ∧ PendAt W vp F.pd
  dmp : MapAt W F.db q F.dm
  omp : MapAt W F.ob q F.om
  ne : F.db ≠ F.ob
  files : ∀ b, F.Is b → FileAt W b (F.fd b).1 (F.fd b).2
  pdn : ∀ n b, F.pd = some (n, b) → 1 ≤ n ∧ n ≤ 7
  hr : 1 ≤ F.room
  ha : -9223372036854775808 ≤ F.af ∧ F.af < 9223372036854775808
  l1 : F.lo ≤ F.fb
  l2 : F.lo ≤ F.db
  l3 : F.lo ≤ F.ob
  l4 : ∀ b, F.Is b → F.lo ≤ b
/-- What calls on a file system leave as it was. -/
structure KeepFs (N : Nat) (W W1 : World) : Prop where
  be : Below N W W1
  ty : ∀ (k : Nat) (cs : Array Value) (e : TypeId), W.heap[k]? = some (.cells cs e (0, 0)) → e ≠ 50 → e ≠ 68 → W1.heap[k]? = W.heap[k]?
theorem KeepFs.size {N : Nat} {W W1 : World} (h : KeepFs N W W1) : W.heap.size ≤ W1.heap.size := h.be.size
theorem KeepFs.refl (N : Nat) (W : World) : KeepFs N W W := ⟨Below.refl _ _, fun _ _ _ _ _ _ => rfl⟩
theorem KeepFs.trans {N : Nat} {A B C : World} (h : KeepFs N A B) (k : KeepFs N B C) : KeepFs N A C :=
  ⟨h.be.trans k.be, fun j cs e hj h1 h2 => (k.ty j cs e ((h.ty j cs e hj h1 h2).trans hj) h1 h2).trans (h.ty j cs e hj h1 h2)⟩
theorem KeepFs.of_below {N : Nat} {A B : World} (h : Below A.heap.size A B) (hN : N ≤ A.heap.size) : KeepFs N A B :=
  ⟨h.mono hN, fun k _ _ hk _ _ => h.block k (blk_lt hk)⟩
/-- A step that turns one block of a file system's alone. -/
theorem KeepFs.grown {N b : Nat} {A B : World} (h : A.grownBy B (some b)) (hN : N ≤ A.heap.size) (hb : N ≤ b) (ho : (∃ es c, A.heap[b]? = some (.map es c)) ∨ (∃ cs e fz, A.heap[b]? = some (.cells cs e fz) ∧ (e = 50 ∨ e = 68)) ∨ A.heap.size ≤ b) : KeepFs N A B :=
  ⟨⟨h.os, h.tape, h.output, h.size, fun k hk => h.block k (Nat.lt_of_lt_of_le hk hN) (by intro e; cases e; omega)⟩, fun k cs e hk h1 h2 => h.block k (blk_lt hk) (by
    intro e0
    cases e0
    rcases ho with ⟨es, c, ho⟩ | ⟨cs', e', fz, ho, he⟩ | ho
    · rw [hk] at ho
      cases ho
    · rw [hk] at ho
      simp only [Option.some.injEq, Obj.cells.injEq] at ho
      obtain ⟨_, rfl, _⟩ := ho
      rcases he with he | he
      · exact h1 he
      · exact h2 he
    · have := blk_lt hk
      omega)⟩
theorem KeepFs.rdb {N : Nat} {A B : World} (h : KeepFs N A B) {R : Option Addr} {d : List Int} (hr : RdB A R d) (ht : ∀ a, R = some a → ∃ cs, A.heap[a.block]? = some (.cells cs 5 (0, 0))) : RdB B R d := by
  refine ⟨hr.1, hr.2.1, fun h0 => ?_⟩
  obtain ⟨a, rfl, hat⟩ := hr.2.2 h0
  obtain ⟨cs, hcs⟩ := ht a rfl
  have hb := h.ty _ _ _ hcs (by decide) (by decide)
  refine ⟨a, rfl, fun j p hp => ?_⟩
  obtain ⟨us, h1, h2, h3⟩ := hat j p hp
  refine ⟨us, h1, h2, fun i u hu => ?_⟩
  rw [← h3 i u hu]
  unfold World.cell?
  have hbk : (a.add (j * (Kd.int .u8).sz + i)).block = a.block := by
    unfold Addr.add
    split <;> rfl
  rw [hbk, hb]
theorem FileAt.move {N : Nat} {W W1 : World} {b : Nat} {d : List Int} {s : Nat} (h : FileAt W b d s) (hk : KeepFs N W W1) (he : W1.heap[b]? = W.heap[b]?) : FileAt W1 b d s := by
  obtain ⟨A, c, h1, h2, h3, h4, h5, h6⟩ := h
  refine ⟨A, c, he.trans h1, hk.rdb h2 h6, h3, h4, h5, fun a ha => ?_⟩
  obtain ⟨cs, hcs⟩ := h6 a ha
  exact ⟨cs, (hk.ty _ _ _ hcs (by decide) (by decide)).trans hcs⟩
theorem PendAt.move {N : Nat} {W W1 : World} {v : Value} {p : Option (Nat × Nat)} (h : PendAt W v p) (hk : KeepFs N W W1) : PendAt W1 v p := by
  match p, h with
  | none, h => exact h
  | some (n, b), ⟨g, c, h1, h2, ⟨cs, h3⟩, h4, h5, h6⟩ =>
    have hb := hk.ty _ _ _ h3 (by decide) (by decide)
    refine ⟨g, c, h1, h2, ⟨cs, hb.trans h3⟩, ?_, ?_, ?_⟩
    · rw [← h4]; unfold World.cell?; rw [show (⟨g, 0, none⟩ : Addr).block = g from rfl, hb]
    · rw [← h5]; unfold World.cell?; rw [show (⟨g, 1, none⟩ : Addr).block = g from rfl, hb]
    · rw [← h6]; unfold World.cell?; rw [show (⟨g, 2, none⟩ : Addr).block = g from rfl, hb]
theorem MapAt.mono {W : World} {mb k k' : Nat} {m : Nat → Option Nat} (h : MapAt W mb k m) (hk : k ≤ k') : MapAt W mb k' m := by
  obtain ⟨D, h1, h2⟩ := h
  exact ⟨D, h1.mono hk, h2⟩
theorem FsAt.fb_lt {F : Fs} {q : Nat} {W : World} (h : FsAt F q W) : F.fb < W.heap.size := by
  obtain ⟨vp, h1, _⟩ := h.box
  exact blk_lt h1.b
theorem FsAt.lo_le {F : Fs} {q : Nat} {W : World} (h : FsAt F q W) : F.lo ≤ W.heap.size := Nat.le_trans h.l1 (Nat.le_of_lt h.fb_lt)
theorem FileAt.lt {W : World} {b : Nat} {d : List Int} {s : Nat} (h : FileAt W b d s) : b < W.heap.size := by
  obtain ⟨A, c, h1, _⟩ := h
  exact blk_lt h1
/-- Nothing that was there has turned. -/
theorem FsAt.below {F : Fs} {q : Nat} {W W1 : World} (h : FsAt F q W) (hb : Below W.heap.size W W1) : FsAt F q W1 := by
  have hk := KeepFs.of_below hb h.lo_le
  obtain ⟨vp, h1, h2⟩ := h.box
  exact ⟨⟨vp, ⟨(hb.block _ (blk_lt h1.b)).trans h1.b⟩, h2.move hk⟩, h.dmp.move (hb.block _ h.dmp.lt), h.omp.move (hb.block _ h.omp.lt), h.ne, fun b hI => (h.files b hI).move hk (hb.block _ (h.files b hI).lt), h.pdn, h.hr, h.ha, h.l1, h.l2, h.l3, h.l4⟩
theorem FsAt.mono {F : Fs} {q q' : Nat} {W : World} (h : FsAt F q W) (hq : q ≤ q') : FsAt F q' W :=
  ⟨h.box, h.dmp.mono hq, h.omp.mono hq, h.ne, h.files, h.pdn, h.hr, h.ha, h.l1, h.l2, h.l3, h.l4⟩
theorem FsAt.keep {F : Fs} {q : Nat} {W W1 : World} (h : FsAt F q W) (hb : Below W.heap.size W W1) : KeepFs F.lo W W1 := KeepFs.of_below hb h.lo_le
/-- The box's blocks differ from the files'. -/
theorem FsAt.fb_ne {F : Fs} {q : Nat} {W : World} (h : FsAt F q W) : F.fb ≠ F.db ∧ F.fb ≠ F.ob ∧ ∀ b, F.Is b → F.fb ≠ b ∧ F.db ≠ b ∧ F.ob ≠ b := by
  obtain ⟨vp, h1, _⟩ := h.box
  obtain ⟨e1, c1, hd⟩ := h.dmp.isMap
  obtain ⟨e2, c2, ho⟩ := h.omp.isMap
  have hb := h1.b
  refine ⟨fun e => ?_, fun e => ?_, fun b hI => ?_⟩
  · rw [e, hd] at hb; cases hb
  · rw [e, ho] at hb; cases hb
  · obtain ⟨A, c, hf, _⟩ := h.files b hI
    refine ⟨fun e => ?_, fun e => ?_, fun e => ?_⟩
    · rw [e, hf] at hb
      simp only [Option.some.injEq, Obj.cells.injEq] at hb
      exact absurd hb.2.1 (by decide)
    · rw [e, hf] at hd; cases hd
    · rw [e, hf] at ho; cases ho
/-- One cell of the box turns. -/
theorem FsAt.put2 {F F' : Fs} {q : Nat} {W W1 : World} (h : FsAt F q W) (hg : W.grownBy W1 (some F.fb)) (e : F' = { F with pl := F'.pl, af := F'.af, er := F'.er, pd := F'.pd })
    (hb : ∃ vp, FsB F'.fb F'.room (.map (some F'.db)) (.map (some F'.ob)) vp F'.pl F'.af F'.er W1 ∧ PendAt W1 vp F'.pd) (ha : -9223372036854775808 ≤ F'.af ∧ F'.af < 9223372036854775808) (hp : ∀ n b, F'.pd = some (n, b) → F.Is b ∧ 1 ≤ n ∧ n ≤ 7) : FsAt F' q W1 ∧ KeepFs F.lo W W1 := by
  obtain ⟨vp, h1, h2⟩ := h.box
  have hk : KeepFs F.lo W W1 := KeepFs.grown hg h.lo_le h.l1 (.inr (.inl ⟨_, _, _, h1.b, .inl rfl⟩))
  obtain ⟨n1, n2, n3⟩ := h.fb_ne
  have e1 : F'.lo = F.lo := by rw [e]
  have e2 : F'.fb = F.fb := by rw [e]
  have e3 : F'.db = F.db := by rw [e]
  have e4 : F'.ob = F.ob := by rw [e]
  have e5 : F'.dm = F.dm := by rw [e]
  have e6 : F'.om = F.om := by rw [e]
  have e7 : F'.fd = F.fd := by rw [e]
  have e8 : F'.room = F.room := by rw [e]
  have hIs : ∀ b, F'.Is b → F.Is b := fun b hI => by
    rcases hI with hI | hI | ⟨n, hn⟩
    · rw [e5] at hI; exact .inl hI
    · rw [e6] at hI; exact .inr (.inl hI)
    · exact (hp n b hn).1
  refine ⟨⟨hb, ?_, ?_, by rw [e3, e4]; exact h.ne, fun b hI => ?_, fun n b hn => (hp n b hn).2, by rw [e8]; exact h.hr, ha, by rw [e1, e2]; exact h.l1, by rw [e1, e3]; exact h.l2, by rw [e1, e4]; exact h.l3, fun b hI => by rw [e1]; exact h.l4 b (hIs b hI)⟩, hk⟩
  · rw [e3, e5]; exact h.dmp.move (hg.block _ h.dmp.lt (by simp; exact fun e => n1 e.symm))
  · rw [e4, e6]; exact h.omp.move (hg.block _ h.omp.lt (by simp; exact fun e => n2 e.symm))
  · rw [e7]; exact (h.files b (hIs b hI)).move hk (hg.block _ (h.files b (hIs b hI)).lt (by simp; exact fun e => (n3 b (hIs b hI)).1 e.symm))
theorem FsAt.put {F F' : Fs} {q : Nat} {W W1 : World} (h : FsAt F q W) (hg : W.grownBy W1 (some F.fb)) (e : F' = { F with pl := F'.pl, af := F'.af, er := F'.er, pd := F'.pd })
    (hb : ∃ vp, FsB F'.fb F'.room (.map (some F'.db)) (.map (some F'.ob)) vp F'.pl F'.af F'.er W1 ∧ PendAt W1 vp F'.pd) (ha : -9223372036854775808 ≤ F'.af ∧ F'.af < 9223372036854775808) (hp : F'.pd = F.pd ∨ F'.pd = none) : FsAt F' q W1 ∧ KeepFs F.lo W W1 :=
  h.put2 hg e hb ha (fun n b hn => by
    rcases hp with hp | hp
    · rw [hp] at hn; exact ⟨.inr (.inr ⟨n, hn⟩), h.pdn n b hn⟩
    · rw [hp] at hn; cases hn)
set_option maxRecDepth 100000 in
set_option maxHeartbeats 2000000 in
theorem find_c {w : World} {F : Fs} {q n b : Nat} (h : FsAt F q w) (hn : F.dm n = some b) : Calls Tryd.prog 42 #[.pointer (some ⟨F.fb, 0, none⟩), .string (segS n)] w fun e w' => e = .returned (.tuple #[.pointer (some ⟨b, 0, none⟩), .int .i64 0]) ∧ Below w.heap.size w w' := by
  obtain ⟨vp, hb, hpd⟩ := h.box
  have h17 : 1 ≤ n ∧ n ≤ 7 := by
    obtain ⟨D, _, hD⟩ := h.dmp
    exact ⟨(hD.all n b hn).1, (hD.all n b hn).2.1⟩
  have HM := Aside0.mk (fun w : World => made_c (w := w) (fb := F.fb) (room := F.room) (vd := .map (some F.db)) (vo := .map (some F.ob)) (vp := vp) (pl := F.pl) (af := F.af) (er := F.er))
  have HB := Aside0.mk hb
  have hr := h.hr
  have HL := Aside0.mk (fun W (hB : Below w.heap.size w W) => (h.below hB).dmp.look h17.1 h17.2)
  generalize F.fb = fb at *
  generalize F.room = room at *
  generalize F.pl = pl at *
  generalize F.af = af at *
  generalize F.er = er at *
  generalize F.db = db at *
  generalize F.ob = ob at *
  rw [hn] at HL
  clear h hb hpd hn
  go_enter Tryd.func42, Tryd.ntmps42
  go_wp2_with (first
    | (go_at_call 17; refine (HM.out _ HB.out hr).mono ?_; rintro e w2 ⟨rfl, hb2⟩
       have c1 : w2.cell? ⟨fb, 1, none⟩ = some (.map (some db)) := cell_below hb2 ((blk_cell HB.out.b 1).trans rfl)
       have hl : (Instr.lookup 47 (.map (some db)) (.string (segS n)) false).run Tryd.prog w2 = .ok (.pointer (some ⟨b, 0, none⟩)) w2 := HL.out w2 hb2)
    | fail)
  go_ret2
  exact ⟨rfl, hb2⟩
set_option maxRecDepth 100000 in
set_option maxHeartbeats 2000000 in
theorem fail_c {w : World} {F : Fs} {q : Nat} {a : Int} (h : FsAt F q w) (ha : -9223372036854775808 ≤ a ∧ a < 9223372036854775808) : Calls Tryd.prog 6 #[.pointer (some ⟨F.fb, 0, none⟩), .int .i64 a, .int .i64 82] w fun e w' => (∃ v, e = .returned v) ∧ FsAt { F with pl := decide (0 ≤ a), af := a, er := 82 } q w' ∧ KeepFs F.lo w w' := by
  obtain ⟨vp, hb, hpd⟩ := h.box
  have HM := Aside0.mk (fun w : World => made_c (w := w) (fb := F.fb) (room := F.room) (vd := .map (some F.db)) (vo := .map (some F.ob)) (vp := vp) (pl := F.pl) (af := F.af) (er := F.er))
  have HB := Aside0.mk hb
  have hr := h.hr
  have H := Aside0.mk h
  have HP := Aside0.mk hpd
  clear h hb hpd
  go_enter Tryd.func6, Tryd.ntmps6
  go_wp2_with (first
    | (go_at_call 17; refine (HM.out _ HB.out hr).mono ?_; rintro e w2 ⟨rfl, hb2⟩
       have hbk := (hb2.block _ (blk_lt HB.out.b)).trans HB.out.b
       have c4 : w2.cell? ⟨F.fb, 4, none⟩ = some (.bool F.pl) := (blk_cell hbk 4).trans rfl
       have c5 : w2.cell? ⟨F.fb, 5, none⟩ = some (.int .i64 F.af) := (blk_cell hbk 5).trans rfl
       have c6 : w2.cell? ⟨F.fb, 6, none⟩ = some (.int .i64 F.er) := (blk_cell hbk 6).trans rfl
       have f4 := blk_frozen hbk 4
       have f5 := blk_frozen hbk 5
       have f6 := blk_frozen hbk 6
       have HBK := Aside0.mk hbk
       clear hbk)
    | fail)
  go_ret
  have hgr : w2.grownBy (((w2.setCell ⟨F.fb, 4, none⟩ (.bool (decide (0 ≤ a)))).setCell ⟨F.fb, 5, none⟩ (.int .i64 a)).setCell ⟨F.fb, 6, none⟩ (.int .i64 82)) (some F.fb) := ⟨rfl, rfl, rfl, by simp, fun k hk hne => by
    rw [Below.heap_setCell _ _ _ _ (fun e => hne (by rw [show k = F.fb from e])), Below.heap_setCell _ _ _ _ (fun e => hne (by rw [show k = F.fb from e])), Below.heap_setCell _ _ _ _ (fun e => hne (by rw [show k = F.fb from e]))]⟩
  have hbk := blk_put (blk_put (blk_put HBK.out 4 (.bool (decide (0 ≤ a))) rfl) 5 (.int .i64 a) rfl) 6 (.int .i64 82) rfl
  have h2 := H.out.below hb2
  have hP2 := HP.out.move (KeepFs.of_below hb2 H.out.lo_le)
  obtain ⟨r1, r2⟩ := h2.put (F' := { F with pl := decide (0 ≤ a), af := a, er := 82 }) hgr rfl ⟨vp, ⟨hbk⟩, hP2.move (KeepFs.grown hgr h2.lo_le H.out.l1 (.inr (.inl ⟨_, _, _, HBK.out, .inl rfl⟩)))⟩ ha (.inl rfl)
  exact ⟨⟨_, rfl⟩, r1, (KeepFs.of_below hb2 H.out.lo_le).trans r2⟩
/-- The plan's word on the next call; the file system behind it. -/
def Fs.pw (F : Fs) : Int := (planF F.pl F.af F.er).1
def Fs.pln (F : Fs) : Fs := { F with pl := (planF F.pl F.af F.er).2.1, af := (planF F.pl F.af F.er).2.2 }
/-- One file is another. -/
def Fs.setF (F : Fs) (b : Nat) (d : List Int) (s : Nat) : Fs := { F with fd := fun x => if x = b then (d, s) else F.fd x }
theorem plan_fs {w : World} {F : Fs} {q : Nat} (h : FsAt F q w) : Calls Tryd.prog 35 #[.pointer (some ⟨F.fb, 0, none⟩)] w fun e w' => e = .returned (.int .i64 F.pw) ∧ FsAt F.pln q w' ∧ KeepFs F.lo w w' ∧ w.grownBy w' (some F.fb) := by
  obtain ⟨vp, hb, hpd⟩ := h.box
  refine (plan_c hb h.ha).mono fun e w' ⟨he, hb', hg⟩ => ?_
  have hk : KeepFs F.lo w w' := KeepFs.grown hg h.lo_le h.l1 (.inr (.inl ⟨_, _, _, hb.b, .inl rfl⟩))
  have hput := h.put (F' := F.pln) hg rfl ⟨vp, hb', hpd.move hk⟩ ?_ (.inl rfl)
  exact ⟨he, hput.1, hput.2, hg⟩
  have ha := h.ha
  show _ ≤ (planF F.pl F.af F.er).2.2 ∧ (planF F.pl F.af F.er).2.2 < _
  unfold planF
  split
  · exact ha
  · split
    · simp only; omega
    · exact ha
/-- One file turns. -/
theorem FsAt.setF {F : Fs} {q : Nat} {W W1 : World} {b : Nat} {d : List Int} {s : Nat} (h : FsAt F q W) (hI : F.Is b) (hg : W.grownBy W1 (some b)) (hf : FileAt W1 b d s) : FsAt (F.setF b d s) q W1 ∧ KeepFs F.lo W W1 := by
  obtain ⟨A, c, hb0, _⟩ := h.files b hI
  have hk : KeepFs F.lo W W1 := KeepFs.grown hg h.lo_le (h.l4 b hI) (.inr (.inl ⟨_, _, _, hb0, .inr rfl⟩))
  obtain ⟨vp, hb, hpd⟩ := h.box
  have n3 := h.fb_ne.2.2 b hI
  refine ⟨⟨⟨vp, ⟨(hg.block _ (blk_lt hb.b) (by simp; exact n3.1)).trans hb.b⟩, hpd.move hk⟩, h.dmp.move (hg.block _ h.dmp.lt (by simp; exact n3.2.1)), h.omp.move (hg.block _ h.omp.lt (by simp; exact n3.2.2)), h.ne, fun x hx => ?_, h.pdn, h.hr, h.ha, h.l1, h.l2, h.l3, h.l4⟩, hk⟩
  show FileAt W1 x (if x = b then (d, s) else F.fd x).1 (if x = b then (d, s) else F.fd x).2
  by_cases e : x = b
  · rw [if_pos e, e]
    exact hf
  · rw [if_neg e]
    exact (h.files x hx).move hk (hg.block _ (h.files x hx).lt (by simp; exact e))
/-- A file system whose file is synced, if the plan lets it. -/
def Fs.syn (F : Fs) (b : Nat) : Fs := if F.pw = 0 then F.pln.setF b (F.fd b).1 (F.fd b).1.length else F.pln
theorem Fs.is_pln {F : Fs} {b : Nat} (h : F.Is b) : F.pln.Is b := h
set_option maxRecDepth 100000 in
set_option maxHeartbeats 4000000 in
theorem sync_c {w : World} {F : Fs} {q n b : Nat} (h : FsAt F q w) (hn : F.dm n = some b) : Calls Tryd.prog 24 #[.pointer (some ⟨F.fb, 0, none⟩), .string (segS n)] w fun e w' => e = .returned (.int .i64 F.pw) ∧ FsAt (F.syn b) q w' ∧ KeepFs F.lo w w' := by
  have HF := Aside0.mk (find_c h hn)
  have H := Aside0.mk h
  have HP := Aside0.mk (fun (w2 : World) (hb : Below w.heap.size w w2) => plan_fs (h.below hb))
  have hI : F.Is b := .inl ⟨n, hn⟩
  have HI := Aside0.mk hI
  have HFB : Aside0 (∃ fb, fb = F.fb) := ⟨_, rfl⟩
  unfold Fs.syn
  generalize hr : F.pw = r at *
  generalize hfb : F.fb = fb at *
  clear h hI hn HFB hr
  have HE := Aside0.mk hfb
  clear hfb
  by_cases hz : r = 0
  · subst hz
    rw [if_pos rfl]
    go_enter Tryd.func24, Tryd.ntmps24
    go_wp2_with (first
      | (go_at_call 42; refine HF.out.mono ?_; rintro e w2 ⟨rfl, hb2⟩)
      | (go_at_call 35; refine (HP.out _ hb2).mono ?_; rintro e w3 ⟨rfl, hf3, hk3, _⟩
         have HF3 := Aside0.mk hf3
         obtain ⟨A, c, hbk, hrd, hlc, hsl, hmx, hty⟩ := hf3.files b HI.out
         have HRD := Aside0.mk (And.intro hrd (And.intro hlc (And.intro hmx hty)))
         have c0 : w3.cell? ⟨b, 0, none⟩ = some (.slice A (F.pln.fd b).1.length c) := (blk_cell hbk 0).trans rfl
         have c1 : w3.cell? ⟨b, 1, none⟩ = some (.int .i64 (F.pln.fd b).2) := (blk_cell hbk 1).trans rfl
         have f1 := blk_frozen hbk 1
         have HBK := Aside0.mk hbk
         clear hbk hrd hty hf3)
      | fail)
    go_ret
    have hgr : w3.grownBy (w3.setCell ⟨b, 1, none⟩ (.int .i64 ((F.pln.fd b).1.length : Nat))) (some b) := ⟨rfl, rfl, rfl, by simp, fun k hk hne => Below.heap_setCell _ _ _ _ (fun e => hne (by rw [show k = b from e]))⟩
    have hbk := blk_put HBK.out 1 (.int .i64 ((F.pln.fd b).1.length : Nat)) rfl
    have hk1 : KeepFs F.lo w3 (w3.setCell ⟨b, 1, none⟩ (.int .i64 ((F.pln.fd b).1.length : Nat))) := KeepFs.grown hgr HF3.out.lo_le (HF3.out.l4 b HI.out) (.inr (.inl ⟨_, _, _, HBK.out, .inr rfl⟩))
    obtain ⟨r1, r2⟩ := HF3.out.setF (b := b) (d := (F.fd b).1) (s := (F.fd b).1.length) HI.out hgr ⟨A, c, hbk, hk1.rdb HRD.out.1 HRD.out.2.2.2, HRD.out.2.1, Nat.le_refl _, HRD.out.2.2.1, fun a ha => by
      obtain ⟨cs, hcs⟩ := HRD.out.2.2.2 a ha
      exact ⟨cs, (hk1.ty _ _ _ hcs (by decide) (by decide)).trans hcs⟩⟩
    exact ⟨rfl, r1, ((KeepFs.of_below hb2 H.out.lo_le).trans hk3).trans r2⟩
  · rw [if_neg hz]
    have t1 : decide (r = 0) = false := decide_eq_false hz
    have t2 : (r == 0) = false := by simp [hz]
    have t3 : (r != 0) = true := by simp [hz]
    go_enter Tryd.func24, Tryd.ntmps24
    go_wp2_with (first
      | (go_at_call 42; refine HF.out.mono ?_; rintro e w2 ⟨rfl, hb2⟩)
      | (go_at_call 35; refine (HP.out _ hb2).mono ?_; rintro e w3 ⟨rfl, hf3, hk3, _⟩)
      | fail)
    go_ret
    exact ⟨rfl, hf3, (KeepFs.of_below hb2 H.out.lo_le).trans hk3⟩
/-- slices.Clone of a nil row of bytes. -/
theorem slice_eqN (w : World) : (binOp .eql 60 (.slice none 0 0) (.slice none 0 0)).run Tryd.prog w = .ok (.bool true) w := by kernel_rfl
end Go.Proofs.YtnmiipcoojijiaaDoor.Top
namespace Go.Proofs.YtnmiipcoojijiaaDoor.Top
set_option linter.unusedSimpArgs false
set_option linter.unusedVariables false
open Go.RowKit Go.Shelf Go.Proofs.YtnmiipcoojijiaaDoorW.PrintWords Go.Proofs.YtnmiipcoojijiaaDoorW.PrintLast Go.Proofs.YtnmiipcoojijiaaDoorW.PrintMore Go.Proofs.YtnmiipcoojijiaaDoor.Plain Go.Proofs.YtnmiipcoojijiaaDoor.Fns
attribute [local go_sem] Oper.semAt_some
theorem clone_n {w : World} : Calls Tryd.prog 44 #[.slice none 0 0] w fun e w' => e = .returned (.slice none 0 0) ∧ w' = w := by
  have hq := slice_eqN w
  go_enter Tryd.func44, Tryd.ntmps44
  go_wp2_with fail
  go_ret
  exact ⟨rfl, rfl⟩
/-- A row of bytes that was cloned: nil, or a block of its own. -/
theorem clone_o {w : World} {A : Option Addr} {c : Nat} {k : List Int} (hk : RdB w A k) (hA : A = none → c = 0) (h1 : k.length ≤ 100000000) :
    Calls Tryd.prog 44 #[.slice A k.length c] w fun e w' => ∃ v, e = .returned v ∧ w'.ownsRow w.heap.size 5 1 v k.length (nums .u8 k) ∧ Below w.heap.size w w' := by
  cases A with
  | some a => exact clone_a hk h1
  | none =>
    have h0 : k.length = 0 := by
      by_cases h : 0 < k.length
      · obtain ⟨a, ha⟩ := hk.some h
        cases ha
      · omega
    obtain rfl : k = [] := List.length_eq_zero_iff.1 h0
    rw [hA rfl]
    refine clone_n.mono fun e w' ⟨he, hw⟩ => ?_
    subst hw
    exact ⟨_, he, World.ownsRow_nil _ _ _ _, Below.refl _ _⟩
set_option maxRecDepth 100000 in
set_option maxHeartbeats 4000000 in
theorem frames0 {n : Nat} (hn : 3 ≤ n) {w : World} {B1 n₀ N : Nat} (h1 : w.heap[B1]? = some (.cells #[.slice none 0 0] 60 (0, 0))) (hB1 : B1 < N) (hn0 : n₀ ≤ w.heap.size) :
    SeqM Fence.wide n Tryd.prog 57 #[.pointer (some ⟨B1, 0, none⟩)] (fun x : FEnt => #[.int .i64 x.e, .slice x.A x.k.length x.c]) (Kf N) (fun A B => Below A.heap.size A B) (fun pre x W => FCame [] n₀ (pre ++ [x]) W)
      (fun xs W => xs.map (fun x => (x.e, x.k)) = endsF 0 [] ∧ ∀ x ∈ xs, FOk n₀ W x) w := fun l J Jx W hW hJ hJx hY h0 => by
  have hB := (hW.block B1 (blk_lt h1)).trans h1
  have hd : 1 ≤ n - 1 := by omega
  clear h1 hW hn0
  refine callsIn_of_wp Tryd.func57 rfl trivial ?_ rfl
  simp only [Tryd.ntmps57, List.size_toArray, List.length_cons, List.length_nil, Nat.reduceAdd, Nat.reduceSub, Array.replicate_succ, Array.replicate_zero, List.push_toArray, List.append_toArray, List.nil_append, List.cons_append]
  gi_wp2
  have hmx : Tryd.prog.follows .mixedOrders = true := by kernel_rfl
  gi_loopg [3] 0 (fun m iv wr => iv = .int .i64 0 ∧ wr.heap[B1]? = some (.cells #[.slice none 0 0] 60 (0, 0)) ∧ J [] wr ∧ m = 0)
  case atStart => exact ⟨rfl, hB, h0, rfl⟩
  case round =>
    obtain ⟨rfl, hB, hJs, rfl⟩ := hrel
    have b1 : wr.cell? ⟨B1, 0, none⟩ = some (.slice none 0 0) := (blk_cell hB 0).trans rfl
    gi_wp2_with (first | (refine ⟨trivial, fun _ => by omega, ?_⟩; refine (callsIn_wide.2 next_nil).mono ?_; rintro e w2 ⟨rfl, hb2⟩) | (refine ⟨trivial, ?_⟩; refine (callsIn_wide.2 next_nil).mono ?_; rintro e w2 ⟨rfl, hb2⟩))
    refine ⟨(fun f h => by cases h), ?_⟩
    gi_wp2
    refine bodyPost_ret (results_none rfl _ _ _) rfl ?_
    exact ⟨⟨_, rfl⟩, .inl ⟨[], ⟨rfl, fun x hx => by cases hx⟩, hJ _ _ _ hJs hb2⟩⟩
set_option maxRecDepth 100000 in
set_option maxHeartbeats 4000000 in
theorem fall_nil {w : World} : Calls Tryd.prog 27 #[.slice none 0 0] w fun e w' => ∃ (v : Value) (xs : List FEnt), e = .returned (.tuple #[v, .int .i64 0]) ∧ w'.ownsRow w.heap.size 60 1 v xs.length (xs.map FEnt.sl) ∧ xs.map FEnt.k = [] ∧ (∀ x ∈ xs, FOk w.heap.size w' x) ∧ Below w.heap.size w w' := by
  refine (callsIn_wide (n := 6)).1 ?_
  refine callsIn_of_wp_marks Tryd.func27 rfl trivial ?_ rfl
  simp only [Tryd.ntmps27, List.size_toArray, List.length_cons, List.length_nil, Nat.reduceAdd, Nat.reduceSub, Array.replicate_succ, Array.replicate_zero, List.push_toArray, List.append_toArray, List.nil_append, List.cons_append]
  gi_wp2_with (refine ⟨trivial, ?_⟩; refine (callsIn_wide.2 (frames_c _ _ _ _)).mono ?_; rintro e w2 ⟨rfl, rfl⟩)
  obtain ⟨W0, hW0⟩ : ∃ W0, ((w.alloc (.cells #[.slice none 0 0] 70)).alloc (.cells #[.int .i64 0] 3)).alloc (.cells #[.slice none 0 0] 60) = W0 := ⟨_, rfl⟩
  have hB0 : Below w.heap.size w W0 := by
    rw [← hW0]
    exact (((Below.refl _ w).alloc (Nat.le_refl _) _).alloc (by simp) _).alloc (by simp; omega) _
  have hI0 : FallI w [] W0 := ⟨⟨.slice none 0 0, by rw [← hW0]; exact al_old (al_old (al_new rfl) _) _, World.ownsRow_nil _ _ _ _⟩, by rw [← hW0]; exact al_old (al_new (by simp)) _, hB0, by rw [← hW0]; simp⟩
  have hb1 : W0.heap[w.heap.size + 2]? = some (.cells #[.slice none 0 0] 60 (0, 0)) := by rw [← hW0]; exact al_new (by simp)
  have hs0 : W0.heap.size = w.heap.size + 3 := by rw [← hW0]; simp
  rw [hW0]
  clear hW0
  have hseq := frames0 (n := 5) (N := w.heap.size + 3) (n₀ := w.heap.size) (by omega) hb1 (by omega) hB0.size
  refine range_mine (F := Fence.wide) (n := 6) rfl (by omega) (gf := 57) rfl trivial (enters_of Tryd.func57 (by kernel_rfl) rfl) hseq
    (fun l o hst _ hl _ => (hst.block l (Array.getElem?_eq_some_iff.1 hl).1).trans hl) (fun h k => h.trans k) (fun W l o o' _ hl ho _ => Kf.put hl ho)
    (fun xs W l o o' hwl hl ho hS => ⟨hS.1, fun x hx => ⟨own_put hl ho (hS.2 x hx).1, (hS.2 x hx).2⟩⟩) (Below.refl _ _) (fun _ => rfl)
    (FallI w) (fun pre A B h hst => h.step hst) (fun pre W l o o' hwl hl ho h => h.put (by omega) hl ho) (fun W o h => h.step ((Below.refl _ W).alloc (Nat.le_refl _) _)) hI0
    (fun _ _ _ => False) (fun _ _ _ _ h _ => h) (fun _ _ _ _ _ _ _ _ _ h => h)
    (fun pre x _ _ => False) (fun pre x a' W l o o' hwl hl ho h => h.elim) ?assign (fun l pre x a' W h => h.elim) ?done (fun _ _ _ _ _ h _ => h.elim)
  case assign =>
    intro l pre x W K hI hX hK
    have := hX.2.1
    simp at this
  case done =>
    rintro D xs W hD hS ⟨⟨v, hv, hown⟩, hm, hB, hsz⟩ hK
    have hxs : xs = [] := List.map_eq_nil_iff.1 hS.1
    subst hxs
    have c0 : W.cell? ⟨w.heap.size, 0, none⟩ = some v := (blk_cell hv 0).trans rfl
    have c1 : W.cell? ⟨w.heap.size + 1, 0, none⟩ = some (.int .i64 0) := (blk_cell hm 0).trans rfl
    have hmx : Tryd.prog.follows .mixedOrders = true := by kernel_rfl
    gi_wp2
    refine Code.wpIn_mono NoPanic.imp ?_
    gi_region_with_o fail
    all_goals
      refine NoPanic.normal ?_
      gi_wp2
      refine ⟨by simp, .inl ⟨_, _, rfl, run_takeDeferred (show W.drew.heap[D]? = _ from hK), ?_⟩⟩
      have hBd := below_drew hB
      have hgr : (W.drew).grownBy (W.drew.putObj D (.deferred none)) (some D) := ⟨rfl, rfl, rfl, by simp, fun k _ hk => World.putObj_heap_other (fun e => hk (by rw [e]))⟩
      exact ⟨_, results_tmp2 rfl _ _ _, v, [], rfl, own_low (own_put (W := W.drew) hK rfl (own_below hown (below_drew (Below.refl _ _)))) (by omega), rfl, fun x hx => (by cases hx), hBd.grown hgr hBd.size (fun k e => by cases e; omega)⟩
set_option maxRecDepth 100000 in
set_option maxHeartbeats 4000000 in
theorem read_c {w : World} {F : Fs} {q n b : Nat} (h : FsAt F q w) (hn : F.dm n = some b) :
    Calls Tryd.prog 26 #[.pointer (some ⟨F.fb, 0, none⟩), .string (segS n)] w fun e w' => ∃ v, e = .returned (.tuple #[v, .int .i64 0]) ∧ w'.ownsRow w.heap.size 5 1 v (F.fd b).1.length (nums .u8 (F.fd b).1) ∧ Below w.heap.size w w' := by
  have HF := Aside0.mk (find_c h hn)
  have H := Aside0.mk h
  obtain ⟨A, c, hbk, hrd, hlc, hsl, hmx, hty⟩ := h.files b (.inl ⟨n, hn⟩)
  have HBK := Aside0.mk hbk
  have HC := Aside0.mk (fun (W : World) (hb : Below w.heap.size w W) => clone_o (w := W) (c := c) (hrd.below hb) hlc.2 (by omega))
  generalize (F.fd b).1 = d at *
  clear h hn hbk hrd hty
  go_enter Tryd.func26, Tryd.ntmps26
  go_wp2_with (first
    | (go_at_call 42; refine HF.out.mono ?_; rintro e w2 ⟨rfl, hb2⟩
       have c0 : w2.cell? ⟨b, 0, none⟩ = some (.slice A d.length c) := cell_below hb2 ((blk_cell HBK.out 0).trans rfl))
    | (go_at_call 44; refine (HC.out _ hb2).mono ?_; rintro e w3 ⟨v, rfl, hown, hb3⟩)
    | fail)
  go_ret2
  exact ⟨_, rfl, own_low hown hb2.size, hb2.trans (hb3.mono hb2.size)⟩
end Go.Proofs.YtnmiipcoojijiaaDoor.Top
namespace Go.Proofs.YtnmiipcoojijiaaDoor.Top
set_option linter.unusedSimpArgs false
set_option linter.unusedVariables false
open Go.RowKit Go.Proofs.YtnmiipcoojijiaaDoorW.PrintWords Go.Proofs.YtnmiipcoojijiaaDoorW.PrintLast Go.Proofs.YtnmiipcoojijiaaDoorW.PrintMore Go.Proofs.YtnmiipcoojijiaaDoor.Plain Go.Proofs.YtnmiipcoojijiaaDoor.Fns Go.Maps
set_option maxRecDepth 100000 in
set_option maxHeartbeats 4000000 in
theorem do_c {w : World} {mb k n b : Nat} {m : Nat → Option Nat} (h : MapAt w mb k m) (h1 : 1 ≤ n) (h2 : n ≤ 7) (hk : k < 1000) :
    Calls Tryd.prog 43 #[.agg #[.string ⟨#[]⟩, .string (segS n), .pointer (some ⟨b, 0, none⟩)], .map (some mb)] w fun e w' => e = .returned (.tuple #[]) ∧ MapAt w' mb (k + 1) (upd m n b) ∧ w.grownBy w' (some mb) := by
  have ha : ∀ o, MapAt (w.alloc o) mb k m := fun o => h.move (Below.heap_alloc _ _ _ h.lt)
  obtain ⟨W2, hup, hM, hg, _⟩ := (ha (.cells #[.string ⟨#[]⟩, .string (segS n), ptrV b] 83)).store h1 h2 hk b
  have HG := Aside0.mk (And.intro hM hg)
  unfold ptrV at hup
  have t1 := seg_full h1 h2
  clear h ha hM hg
  go_enter Tryd.func43, Tryd.ntmps43
  go_wp2_with fail
  exact bodyPost_end (by kernel_rfl) rfl ⟨rfl, HG.out.1, (World.grownBy_alloc _ _ _).trans HG.out.2⟩
/-- What pending one name makes of a file system: the plan has let it, the directory has the name, it is pending. -/
def Fs.add (F : Fs) (n b : Nat) : Fs := { F.pln with dm := upd F.dm n b, pd := some (n, b), fd := fun x => if x = b then ([], 0) else F.fd x }
/-- A name comes into the directory. -/
theorem FsAt.name {F : Fs} {q n b : Nat} {W W1 : World} (h : FsAt F q W) (hp : F.pd = none) (hg : W.grownBy W1 (some F.db)) (hm : MapAt W1 F.db (q + 1) (upd F.dm n b)) (hf : FileAt W b [] 0) (hlo : F.lo ≤ b) (hI : ¬ F.Is b) (hfb : b ≠ F.db) :
    FsAt { F with dm := upd F.dm n b, fd := fun x => if x = b then ([], 0) else F.fd x } (q + 1) W1 ∧ KeepFs F.lo W W1 := by
  have hk : KeepFs F.lo W W1 := KeepFs.grown hg h.lo_le h.l2 (.inl h.dmp.isMap)
  obtain ⟨vp, h1, h2⟩ := h.box
  obtain ⟨n1, n2, n3⟩ := h.fb_ne
  have hIs : ∀ x, ({ F with dm := upd F.dm n b, fd := fun x => if x = b then ([], 0) else F.fd x } : Fs).Is x → x = b ∨ F.Is x := fun x hx => by
    rcases hx with ⟨j, hj⟩ | hx | ⟨j, hj⟩
    · rcases upd_some hj with ⟨_, e⟩ | ⟨_, hj⟩
      · exact .inl e
      · exact .inr (.inl ⟨j, hj⟩)
    · exact .inr (.inr (.inl hx))
    · exact absurd (hp.symm.trans hj) (by simp)
  refine ⟨⟨⟨vp, ⟨(hg.block _ (blk_lt h1.b) (by simp; exact n1)).trans h1.b⟩, h2.move hk⟩, hm, (h.omp.move (hg.block _ h.omp.lt (by simp; exact fun e => h.ne e.symm))).mono (Nat.le_succ _), h.ne, fun x hx => ?_, h.pdn, h.hr, h.ha, h.l1, h.l2, h.l3, fun x hx => ?_⟩, hk⟩
  · show FileAt W1 x (if x = b then ([], 0) else F.fd x).1 (if x = b then ([], 0) else F.fd x).2
    by_cases e : x = b
    · subst e
      rw [if_pos rfl]
      exact hf.move hk (hg.block _ hf.lt (by simp; exact hfb))
    · rw [if_neg e]
      have hx' := (hIs x hx).resolve_left e
      exact (h.files x hx').move hk (hg.block _ (h.files x hx').lt (by simp; exact fun e2 => (n3 x hx').2.1 e2.symm))
  · rcases hIs x hx with rfl | hx'
    · exact hlo
    · exact h.l4 x hx'
theorem info_act : (Tryd.prog.info? 83).map (fun i => (i.zero, i.size, i.bytes)) = some (some (.agg #[.string ⟨#[]⟩, .string ⟨#[]⟩, .pointer none]), 3, 40) := by kernel_rfl
theorem step_act {w0 W W' : World} {ops : Array Oper} {o : Oper} {a : Act} {Q : Exit → Act → World → Prop} {K : Act → World → Prop} {base : Nat} (hw : Region.wanted o (yielded ops a.tmps) = true) (s x : Operand)
    (ho : o.op = .call { callee := .builtin .append, args := #[s, x], argTypes := #[48, 48] }) (n b : Nat) (hW : W' = W.alloc (.cells #[.string ⟨#[]⟩, .string (segS n), .pointer (some ⟨b, 0, none⟩)] 83)) (hs : a.eval s = .slice none 0 0) (hx : a.eval x = .slice (some ⟨W.heap.size, 0, none⟩) 1 1)
    (HB : Below base w0 W) (hbase : base ≤ W.heap.size)
    (h : ∀ v1 w1, w1.ownsRow base 83 3 v1 1 [.string ⟨#[]⟩, .string (segS n), ptrV b] → Below base w0 w1 → W.grownBy w1 none → K (a.put o.dst v1) w1) :
    if Region.wanted o (yielded ops a.tmps) = true then Oper.wp Tryd.prog o a W' K Q else K (a.put o.dst undef) W' := by
  subst hW
  exact step_append_cells (w0 := w0) (W := W) base hw s x 48 83 (.agg #[.string ⟨#[]⟩, .string ⟨#[]⟩, .pointer none]) 3 40 ho Tryd.underlying48 info_act rfl (by decide) (by decide) (.slice none 0 0) 0 [] [.string ⟨#[]⟩, .string (segS n), ptrV b] hs hx rfl (fun u hu => by
    simp only [ptrV, List.mem_cons, List.not_mem_nil, or_false] at hu
    rcases hu with rfl | rfl | rfl <;> rfl) (World.ownsRow_nil _ _ _ _) HB hbase (by omega) (fun v1 w1 g1 g2 g3 g4 => h v1 w1 g1 g2 g3)
/-- One act in a row of its own is pending. -/
theorem PendAt.of_own {W : World} {base n b : Nat} {v : Value} (h : W.ownsRow base 83 3 v 1 [.string ⟨#[]⟩, .string (segS n), ptrV b]) : PendAt W v (some (n, b)) := by
  obtain ⟨g, cap, cur, rfl, _, hg, hc, _, hsz, ht⟩ := own_some h (by omega)
  have h3 : cur.toList.take 3 = [.string ⟨#[]⟩, .string (segS n), ptrV b] := ht
  have hat : ∀ i u, ([.string ⟨#[]⟩, .string (segS n), ptrV b] : List Value)[i]? = some u → W.cell? ⟨g, i, none⟩ = some u := fun i u hu => by
    rw [← h3] at hu
    have hi : i < 3 := by
      have := (List.getElem?_eq_some_iff.1 hu).1
      simp at this
      omega
    rw [List.getElem?_take_of_lt hi] at hu
    rw [blk_cell hg i]
    simpa using hu
  exact ⟨g, cap, rfl, hc, ⟨cur, hg⟩, hat 0 _ rfl, hat 1 _ rfl, hat 2 _ rfl⟩
end Go.Proofs.YtnmiipcoojijiaaDoor.Top
