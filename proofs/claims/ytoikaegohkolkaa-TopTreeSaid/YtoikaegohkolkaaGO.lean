/-
  A tree of runs, in plain Lean: what is asked of entries, what folding gives once more; conditions: those that each theorem states.
-/
import Derived.Test.YtoikaegohkolkaaGN
import Derived.Test.YtoikaegohkolkaaGI
import Derived.Test.YtoikaegohkolkaaYOffer
import Derived.Test.YtoikaegohkolkaaGF
namespace Go.Proofs.Ytoikaegohkolkaa.Top
set_option linter.unusedSimpArgs false
set_option linter.unusedVariables false
open Go.RowKit Go.Proofs.YtoikaegohkolkaaW.PrintWords Go.Proofs.YtoikaegohkolkaaW.PrintLast Go.Proofs.YtoikaegohkolkaaW.PrintMore Go.Proofs.Ytoikaegohkolkaa.Plain Go.Proofs.Ytoikaegohkolkaa.KFns Go.Proofs.Ytoikaegohkolkaa.Fns
def entOf (x : List Int × Ag) : Ent := ⟨none, 0, x.1, x.2⟩
noncomputable def chkK (gs : Gr) (keep m : Int) (l : Kv) : Int := chk gs keep m (l.map entOf)
theorem chk_ka (gs : Gr) (keep m : Int) (es : List Ent) : chk gs keep m es = chkK gs keep m (es.map Ent.ka) := by
  have e1 : adjB es = adjB ((es.map Ent.ka).map entOf) := by
    unfold adjB
    rw [List.map_map, List.map_map, List.length_map]
    rfl
  have e2 : fitsAll gs keep es = fitsAll gs keep ((es.map Ent.ka).map entOf) := by
    unfold fitsAll
    rw [List.map_map, List.any_map, List.isEmpty_map]
    rfl
  unfold chkK chk
  rw [e1, e2]
theorem ka_entOf (l : Kv) : (l.map entOf).map Ent.ka = l := by
  rw [List.map_map]
  have : (Ent.ka ∘ entOf) = id := rfl
  rw [this, List.map_id]
theorem adj_srt {es : List Ent} (h : adjB es = true) : Srt (es.map Ent.ka) := by
  have h1 : ∀ j (hj : j + 1 < es.length), lts (es[j]'(by omega)).k es[j + 1].k = true := fun j hj => by
    cases hl : lts (es[j]'(by omega)).k es[j + 1].k with
    | true => rfl
    | false => rw [adj_bad hj hl] at h; cases h
  clear h
  induction es with
  | nil => exact List.Pairwise.nil
  | cons x r ih =>
    have ih' := ih fun j hj => by
      have := h1 (j + 1) (by simp; omega)
      simpa using this
    refine List.pairwise_cons.2 ⟨fun y hy => ?_, ih'⟩
    cases r with
    | nil => simp at hy
    | cons z r =>
      have hz : lts x.k z.k = true := by
        have := h1 0 (by simp)
        simpa using this
      rcases List.mem_cons.1 hy with rfl | hy
      · exact hz
      · exact lts_tr _ _ _ hz ((List.pairwise_cons.1 ih').1 y hy)
theorem srt_adj {es : List Ent} (h : Srt (es.map Ent.ka)) : adjB es = true := adj_good fun j hj => by
  have h2 := (List.pairwise_iff_getElem.1 h) j (j + 1) (by simp; omega) (by simp; omega) (by omega)
  simpa [Ent.ka] using h2
theorem chkK_zero {gs : Gr} {keep m : Int} {l : Kv} (h : chkK gs keep m l = 0) : rightR gs keep = true ∧ TmOk m ∧ Srt l ∧ ∀ x ∈ l, fitsE gs x.1 x.2 = true := by
  obtain ⟨h1, h2, h3, h4⟩ := chk_zero h
  refine ⟨h1, h2, ?_, fun x hx => h4 (entOf x) (List.mem_map_of_mem hx)⟩
  have := adj_srt h3
  rwa [ka_entOf] at this
theorem chkK_good {gs : Gr} {keep m : Int} {l : Kv} (h1 : rightR gs keep = true) (h2 : TmOk m) (h3 : Srt l) (h4 : ∀ x ∈ l, fitsE gs x.1 x.2 = true) : chkK gs keep m l = 0 := by
  unfold chkK chk
  rw [if_pos h1, if_pos (show 0 ≤ m ∧ m ≤ 1099511627776 from h2), if_pos (srt_adj (by rw [ka_entOf]; exact h3)), if_pos]
  unfold fitsAll
  rw [h1]
  have : ((l.map entOf).any fun x => !fitsE gs x.k x.a) = false := by
    rw [List.any_eq_false]
    intro x hx
    obtain ⟨y, hy, rfl⟩ := List.mem_map.1 hx
    simp [h4 y hy, entOf]
  rw [this]
  simp
theorem KOk.fits {gs : Gr} {k : List Int} {a : Ag} (h : KOk gs k) (hg : Gd a) : fitsE gs k a = true := by
  unfold fitsE
  simp only [Bool.and_eq_true, decide_eq_true_eq]
  exact ⟨h.ok, h.gl, h.md, hg.c0, hg.rt⟩
theorem KOk.pos {gs : Gr} {k : List Int} (h : KOk gs k) : 0 < k.length := by
  cases k with
  | cons x r => simp
  | nil =>
    have h1 := isRead_uniq (rdK_is h.byt h.len) (isRead_empty [])
    have h2 := h.ok
    rw [h1] at h2
    cases h2
/-- Entries that may be folded. -/
structure KvG (gs : Gr) (keep m : Int) (l : Kv) : Prop where
  rt : rightR gs keep = true
  tm : TmOk m
  srt : Srt l
  ok : ∀ x ∈ l, KOk gs x.1 ∧ Gd x.2
theorem KvG.chk {gs : Gr} {keep m : Int} {l : Kv} (h : KvG gs keep m l) : chkK gs keep m l = 0 := chkK_good h.rt h.tm h.srt fun x hx => (h.ok x hx).1.fits (h.ok x hx).2
theorem kvg_of {gs : Gr} {keep m : Int} {l : Kv} (h : chkK gs keep m l = 0) (hb : ∀ x ∈ l, Byt x.1 ∧ x.1.length ≤ 1000000 ∧ AgR x.2) : KvG gs keep m l := by
  obtain ⟨h1, h2, h3, h4⟩ := chkK_zero h
  refine ⟨h1, h2, h3, fun x hx => ?_⟩
  obtain ⟨b1, b2, b3⟩ := hb x hx
  obtain ⟨k1, k2, k3⟩ := fitsE_kok b1 b2 (h4 x hx)
  exact ⟨k1, ⟨k2, k3, b3.1, b3.2.1, b3.2.2⟩⟩
/-- What folding gives, may be folded once more, and is the same. -/
theorem KvG.fold {gs : Gr} {keep m : Int} {l : Kv} (h : KvG gs keep m l) :
    KvG gs keep m (foldK (atF gs keep m) l) ∧ foldK (atF gs keep m) (foldK (atF gs keep m) l) = foldK (atF gs keep m) l ∧ (∀ x ∈ foldK (atF gs keep m) l, staleE gs keep m x.1 = false) ∧ (foldK (atF gs keep m) l).length ≤ l.length := by
  have hr := rightR_iff h.rt
  have hall := foldK_all (f := atF gs keep m) fun x hx => (h.ok x hx).2
  have htw : ∀ x ∈ l, ∀ k, atF gs keep m x.1 = some k → KOk gs k ∧ atF gs keep m k = some k := fun x hx k hk => atF_twice (h.ok x hx).1 hr hk
  refine ⟨⟨h.rt, h.tm, foldK_srt _ _, fun x hx => ?_⟩, foldK_twice (fun x hx => (h.ok x hx).2) (fun x hx k hk => (htw x hx k hk).2), fun x hx => ?_, foldK_len _ _⟩
  · obtain ⟨g1, y, hy, he⟩ := hall x hx
    exact ⟨(htw y hy _ he).1, g1⟩
  · obtain ⟨g1, y, hy, he⟩ := hall x hx
    have h2 := (htw y hy _ he).2
    unfold atF at h2
    unfold staleE
    split at h2
    · cases h2
    · rename_i hg
      simp only [Option.some.injEq] at h2
      simp [hg, h2]
theorem KvG.nil {gs : Gr} {keep m : Int} (h1 : rightR gs keep = true) (h2 : TmOk m) : KvG gs keep m [] := ⟨h1, h2, List.Pairwise.nil, fun x hx => by cases hx⟩
/-- Rows that may be put together. -/
theorem KvG.rowR {gs : Gr} {keep m : Int} {es : List Ent} (h : KvG gs keep m (es.map Ent.ka)) (hn : es.length ≤ 4096) : RowR es :=
  ⟨h.srt, fun x hx => (h.ok _ (List.mem_map_of_mem hx)).2, fun x hx => (h.ok _ (List.mem_map_of_mem hx)).1.byt, hn, fun x hx => ⟨(h.ok _ (List.mem_map_of_mem hx)).1.pos, (h.ok _ (List.mem_map_of_mem hx)).1.len⟩⟩
/-- What comes of rows that may be folded, where its order is right. -/
theorem all_kvg {gs : Gr} {keep m : Int} {rows : List Kv} (h : ∀ r ∈ rows, KvG gs keep m r) (hc : chkK gs keep m (allF rows) = 0) : KvG gs keep m (allF rows) := by
  obtain ⟨h1, h2, h3, h4⟩ := chkK_zero hc
  refine ⟨h1, h2, h3, ?_⟩
  exact allF_all (Q := KOk gs) fun r hr x hx => (h r hr).ok x hx
def Re.v (r : Re) : Value := .slice r.A r.es.length r.c
/-- All blocks but a tree's own lie as they lay. -/
def Kt (A B : World) : Prop := A.heap.size ≤ B.heap.size ∧ ∀ (k : Nat) (cs : Array Value) (e : TypeId), A.heap[k]? = some (.cells cs e (0, 0)) → e ≠ 29 → e ≠ 31 → e ≠ 47 → B.heap[k]? = A.heap[k]?
theorem Kt.trans {A B C : World} (h : Kt A B) (k : Kt B C) : Kt A C := ⟨Nat.le_trans h.1 k.1, fun b cs e hb h1 h2 h3 => (k.2 b cs e ((h.2 b cs e hb h1 h2 h3).trans hb) h1 h2 h3).trans (h.2 b cs e hb h1 h2 h3)⟩
theorem Kt.of_below {A B : World} (h : Below A.heap.size A B) : Kt A B := ⟨h.size, fun b cs e hb _ _ _ => h.block b (blk_lt hb)⟩
theorem Kt.grown {W W3 : World} {base n sz : Nat} {t : TypeId} {v : Value} {xs : List Value} (ht : t = 31 ∨ t = 47) (hown : W.ownsRow base t sz v n xs) (hg : W.grownBy W3 v.ownBlock) : Kt W W3 :=
  ⟨hg.size, fun b cs e hb _ h2 h3 => hg.block b (blk_lt hb) (fun h => by
    obtain ⟨cs', hc⟩ := own_typed hown b h.symm
    rw [hb] at hc
    cases hc
    rcases ht with rfl | rfl
    · exact h2 rfl
    · exact h3 rfl)⟩
theorem Kt.box {A W : World} {tb i : Nat} {cs : Array Value} {u : Value} (h : Kt A W) (hbx : W.heap[tb]? = some (.cells cs 29 (0, 0))) : Kt A (W.setCell ⟨tb, i, none⟩ u) :=
  h.trans ⟨by simp, fun b cs' e hb' h1 _ _ => Below.heap_setCell _ _ _ _ (fun e' => by
    have e2 : b = tb := e'
    subst e2
    rw [hbx] at hb'
    cases hb'
    exact h1 rfl)⟩
theorem Kt.own {A B : World} {base n sz : Nat} {e : TypeId} {v : Value} {xs : List Value} (h : Kt A B) (h1 : e ≠ 29) (h2 : e ≠ 31) (h3 : e ≠ 47) (ho : A.ownsRow base e sz v n xs) : B.ownsRow base e sz v n xs := own_move ho fun k hk => by
  obtain ⟨cs, hc⟩ := own_typed ho k hk
  exact h.2 k cs e hc h1 h2 h3
/-- A row of entries: it came in, or it was made. -/
structure RowK (w0 W : World) (r : Re) : Prop where
  at_ : r.es ≠ [] → r.A = some ⟨r.b, r.o, none⟩
  le : r.es.length ≤ r.c
  cap : r.c ≤ 9223372036854775807
  k : EnRow w0 r.b r.o r.es ∨ (W.ownsRow w0.heap.size 56 7 r.v r.es.length (r.es.flatMap Ent.cells) ∧ (∀ x ∈ r.es, EntOk w0.heap.size W x) ∧ r.o = 0)
theorem RowK.below {w0 W W1 : World} {r : Re} (h : RowK w0 W r) (hb : Below W.heap.size W W1) : RowK w0 W1 r :=
  ⟨h.at_, h.le, h.cap, h.k.imp id fun ⟨h1, h2, h3⟩ => ⟨own_below h1 hb, fun x hx => own_below (h2 x hx) hb, h3⟩⟩
theorem RowK.kt {w0 W W1 : World} {r : Re} (h : RowK w0 W r) (hk : Kt W W1) : RowK w0 W1 r :=
  ⟨h.at_, h.le, h.cap, h.k.imp id fun ⟨h1, h2, h3⟩ => ⟨hk.own (by decide) (by decide) (by decide) h1, fun x hx => hk.own (by decide) (by decide) (by decide) (h2 x hx), h3⟩⟩
theorem RowK.row {w0 W : World} {r : Re} (h : RowK w0 W r) (hb : Below w0.heap.size w0 W) : EnRow W r.b r.o r.es := by
  rcases h.k with h1 | ⟨h1, h2, h3⟩
  · exact h1.below hb
  · obtain ⟨A, g, cp, e, _, _, ha, hr⟩ := own_row h1 h2
    by_cases h0 : r.es = []
    · rw [h0]
      exact ⟨fun j hj => by simp at hj, fun x hx => by cases hx⟩
    · have h5 := h.at_ h0
      have h6 := (ha h0).1
      unfold Re.v at e
      rw [h5] at e
      injection e with e1 _ _
      rw [h6] at e1
      injection e1 with e1
      injection e1 with e1 _ _
      rw [h3, e1]
      exact hr
/-- What is asked of a row. -/
structure RowG (gs : Gr) (keep m : Int) (es : List Ent) : Prop where
  kv : KvG gs keep m (es.map Ent.ka)
  n : es.length ≤ 1000
theorem RowG.enok {gs : Gr} {keep m : Int} {es : List Ent} (h : RowG gs keep m es) : EnOk es := fun x hx => ⟨(h.kv.ok _ (List.mem_map_of_mem hx)).1.byt, (h.kv.ok _ (List.mem_map_of_mem hx)).1.len⟩
theorem RowG.chk {gs : Gr} {keep m : Int} {es : List Ent} (h : RowG gs keep m es) : chk gs keep m es = 0 := by rw [chk_ka]; exact h.kv.chk
theorem RowK.re_ok {w0 W : World} {r : Re} {gs : Gr} {keep m : Int} (h : RowK w0 W r) (hb : Below w0.heap.size w0 W) (hg : RowG gs keep m r.es) : r.ok W :=
  ⟨h.at_, h.row hb, hg.kv.rowR (by have := hg.n; omega), h.le, h.cap⟩
def nilRe : Re := ⟨none, 0, 0, 0, []⟩
def rowAt (rows : List Re) (x : Rn) : Re := rows.getD x.f.toNat nilRe
/-- A run, and its row. -/
structure RunG (gs : Gr) (keep m : Int) (rows : List Re) (x : Rn) : Prop where
  f1 : 1 ≤ x.f
  fl : x.f < (rows.length : Int)
  n : x.n = ((rowAt rows x).es.length : Int)
  s : x.s = (rowAt rows x).es.any fun e => staleE gs keep m e.k
  g : RowG gs keep m (rowAt rows x).es
theorem rowAt_get {rows : List Re} {x : Rn} (h1 : 1 ≤ x.f) (h2 : x.f < (rows.length : Int)) : ∃ h : x.f.toNat < rows.length, rowAt rows x = rows[x.f.toNat] := by
  have h : x.f.toNat < rows.length := by omega
  exact ⟨h, by unfold rowAt; rw [List.getD_eq_getElem?_getD, List.getElem?_eq_getElem h]; rfl⟩
theorem rowAt_app {rows : List Re} {x : Rn} (h1 : 1 ≤ x.f) (h2 : x.f < (rows.length : Int)) (r : Re) : rowAt (rows ++ [r]) x = rowAt rows x := by
  unfold rowAt
  rw [List.getD_eq_getElem?_getD, List.getD_eq_getElem?_getD, List.getElem?_append_left (by omega)]
theorem RunG.app {gs : Gr} {keep m : Int} {rows : List Re} {x : Rn} (h : RunG gs keep m rows x) (r : Re) : RunG gs keep m (rows ++ [r]) x := by
  have e := rowAt_app h.f1 h.fl r
  exact ⟨h.f1, by have := h.fl; rw [List.length_append]; simp; omega, by rw [e]; exact h.n, by rw [e]; exact h.s, by rw [e]; exact h.g⟩
/-- Runs, and where they lie. -/
def RunAt (W : World) (v : Value) (rs : List Rn) : Prop := ∃ (A : Option Addr) (b c : Nat), v = .slice A rs.length c ∧ (rs ≠ [] → A = some ⟨b, 0, none⟩) ∧ RnRow W b rs
theorem RunAt.below {W W1 : World} {v : Value} {rs : List Rn} (h : RunAt W v rs) (hb : Below W.heap.size W W1) : RunAt W1 v rs := by
  obtain ⟨A, b, c, h1, h2, h3⟩ := h
  exact ⟨A, b, c, h1, h2, h3.below hb⟩
/-- The tree: its rules, its mark, its runs, its rows. -/
structure TrI (w0 : World) (R : Option Addr) (c : Nat) (gs : Gr) (keep m : Int) (tb : Nat) (vr vs : Value) (rows : List Re) (W : World) : Prop where
  be : Below w0.heap.size w0 W
  bx : W.heap[tb]? = some (.cells #[.slice R gs.length c, .int .i64 keep, .int .i64 m, vr, vs] 29 (0, 0))
  own : W.ownsRow w0.heap.size 31 1 vs rows.length (rows.map Re.v)
  tw : w0.heap.size ≤ tb
  rk : ∀ r ∈ rows, RowK w0 W r
theorem TrI.below {w0 : World} {R : Option Addr} {c : Nat} {gs : Gr} {keep m : Int} {tb : Nat} {vr vs : Value} {rows : List Re} {W W1 : World} (h : TrI w0 R c gs keep m tb vr vs rows W) (hb : Below W.heap.size W W1) : TrI w0 R c gs keep m tb vr vs rows W1 :=
  ⟨h.be.trans (hb.mono h.be.size), (hb.block _ (blk_lt h.bx)).trans h.bx, own_below h.own hb, h.tw, fun r hr => (h.rk r hr).below hb⟩
theorem info_row : (Try.prog.info? 31).map (fun i => (i.zero, i.size, i.bytes)) = some (some (.slice none 0 0), 1, 24) := by kernel_rfl
theorem own_re {W : World} {B : Nat} {v : Value} {rows : List Re} (h : W.ownsRow B 31 1 v rows.length (rows.map Re.v)) {j : Nat} (hj : j < rows.length) : ∃ (g c : Nat), v = .slice (some ⟨g, 0, none⟩) rows.length c ∧ W.cell? ⟨g, j, none⟩ = some rows[j].v ∧ B ≤ g := by
  rcases h.2 with ⟨e, h0⟩ | ⟨g, cp, cur, e, hg, hb, h1, h2, h3, h4⟩
  · omega
  · refine ⟨g, cp, e, ?_, hg⟩
    have := (e ▸ h).cellAt j (by omega)
    rw [this, List.getElem?_map, List.getElem?_eq_getElem hj]
    rfl
/-- Rows picked out, as All takes them. -/
theorem own_rerow {W : World} {B : Nat} {v : Value} {rows : List Re} (h : W.ownsRow B 31 1 v rows.length (rows.map Re.v)) (hok : ∀ r ∈ rows, r.ok W) : ∃ (A : Option Addr) (b c : Nat), v = .slice A rows.length c ∧ (rows ≠ [] → A = some ⟨b, 0, none⟩) ∧ ReRow W b 0 rows := by
  rcases h.2 with ⟨e, h0⟩ | ⟨g, cp, cur, e, hg, hb, h1, h2, h3, h4⟩
  · have : rows = [] := List.length_eq_zero_iff.1 h0
    subst this
    exact ⟨none, 0, 0, e, fun h => absurd rfl h, fun j hj => by simp at hj⟩
  · refine ⟨some ⟨g, 0, none⟩, g, cp, e, fun _ => rfl, fun j hj => ?_⟩
    have := (e ▸ h).cellAt j (by omega)
    rw [Nat.zero_add, this, List.getElem?_map, List.getElem?_eq_getElem hj]
    exact ⟨rfl, hok _ (List.getElem_mem hj)⟩
/-- What all runs together know. -/
def selR (rows : List Re) (rs : List Rn) : List Re := rs.map (rowAt rows)
def allK (rows : List Re) (rs : List Rn) : Kv := allF ((selR rows rs).map Re.kv)
theorem step_row {w0 W W' : World} {ops : Array Oper} {o : Oper} {a : Act} {Q : Exit → Act → World → Prop} {K : Act → World → Prop} {base : Nat} (hw : Region.wanted o (yielded ops a.tmps) = true) (s x : Operand)
    (ho : o.op = .call { callee := .builtin .append, args := #[s, x], argTypes := #[25, 25] }) (v : Value) (n : Nat) (xs : List Value) (r : Value) (hW : W' = W.alloc (.cells #[r] 31)) (h1 : r.oneCell' = true) (hs : a.eval s = v) (hx : a.eval x = .slice (some ⟨W.heap.size, 0, none⟩) 1 1)
    (HO : W.ownsRow base 31 1 v n xs) (HB : Below base w0 W) (hbase : base ≤ W.heap.size) (hl : n ≤ 1000)
    (h : ∀ v1 w1, w1.ownsRow base 31 1 v1 (n + 1) (xs ++ [r]) → Below base w0 w1 → W.grownBy w1 v.ownBlock → K (a.put o.dst v1) w1) :
    if Region.wanted o (yielded ops a.tmps) = true then Oper.wp Try.prog o a W' K Q else K (a.put o.dst undef) W' := by
  subst hW
  exact step_append_cells (w0 := w0) (W := W) base hw s x 25 31 (.slice none 0 0) 1 24 ho Try.underlying25 info_row rfl (by decide) (by decide) v n xs [r] hs hx rfl (fun u hu => by obtain rfl := List.mem_singleton.1 hu; exact h1) HO HB hbase (by omega) (fun v1 w1 g1 g2 g3 g4 => h v1 w1 g1 g2 g3)
/-- What known tells. -/
def KnownR (w : World) (gs : Gr) (keep m : Int) (T : Kv) (e : Ending) (w' : World) : Prop :=
  ∃ (v : Value) (outs : List Ent), e = .returned (.tuple #[v, .bool (decide (chkK gs keep m T = 0))]) ∧ Below w.heap.size w w' ∧ (chkK gs keep m T = 0 → w'.ownsRow w.heap.size 56 7 v outs.length (outs.flatMap Ent.cells) ∧ (∀ x ∈ outs, EntOk w.heap.size w' x) ∧ outs.map Ent.ka = foldK (atF gs keep m) T)
set_option maxRecDepth 100000 in
set_option maxHeartbeats 8000000 in
theorem known_c {w0 w : World} {R : Option Addr} {rb ro c tb : Nat} {gs : Gr} {keep m : Int} {vr vs : Value} {rows : List Re} {rs : List Rn} (hR : gs ≠ [] → R = some ⟨rb, ro, none⟩) (hG : GRow w0 rb ro gs) (hl : (gs.length : Int) ≤ 9223372036854775807) (h : TrI w0 R c gs keep m tb vr vs rows w) (hr : RunAt w vr rs) (hg : ∀ x ∈ rs, RunG gs keep m rows x) (hn : rs.length ≤ 8) (hs : ((selR rows rs).map (fun r => r.es.length)).sum ≤ 1000) :
    Calls Try.prog 7 #[.pointer (some ⟨tb, 0, none⟩)] w (KnownR w gs keep m (allK rows rs)) := by
  obtain ⟨A, b, cr, rfl, hA, hrow⟩ := hr
  have k3 : w.cell? ⟨tb, 3, none⟩ = some (.slice A rs.length cr) := (blk_cell h.bx 3).trans rfl
  have HH := Aside0.mk (And.intro hR (And.intro hG (And.intro hl (And.intro h (And.intro hA (And.intro hrow (And.intro hg hs)))))))
  clear hR hG hl h hA hrow hg hs
  go_enter Try.func7, Try.ntmps7
  go_wp2_with fail
  go_loopw [4, 5] (fun o i wr => ∃ (j : Nat), j ≤ rs.length ∧ i = .int .i64 j ∧ Aside0 (wr.ownsRow w.heap.size 31 1 o j (((selR rows rs).take j).map Re.v)) ∧ Aside0 (Below w.heap.size w wr)) (fun _ i _ => rs.length - (intOf i).toNat)
  case atStart => exact ⟨0, by omega, rfl, ⟨World.ownsRow_nil _ _ _ _⟩, ⟨Below.refl _ _⟩⟩
  case round =>
    obtain ⟨j, hj, rfl, HO, HB⟩ := hrel
    have hT := HH.out.2.2.2.1.below HB.out
    have k3 : wr.cell? ⟨tb, 3, none⟩ = some (.slice A rs.length cr) := (blk_cell hT.bx 3).trans rfl
    have HT := Aside0.mk hT
    by_cases hlt : j < rs.length
    · have t1 : decide (j < rs.length) = true := decide_eq_true hlt
      obtain rfl := HH.out.2.2.2.2.1 (by intro e; rw [e] at hlt; simp at hlt)
      obtain ⟨x0, x1, x2, x3⟩ := (RnRow.below HH.out.2.2.2.2.2.1 HB.out).cells hlt
      have hgx := HH.out.2.2.2.2.2.2.1 _ (List.getElem_mem hlt)
      obtain ⟨hfl, hra⟩ := rowAt_get hgx.f1 hgx.fl
      obtain ⟨g, cv, rfl, hc, hgw⟩ := own_re hT.own hfl
      have k4 : wr.cell? ⟨tb, 4, none⟩ = some (.slice (some ⟨g, 0, none⟩) rows.length cv) := (blk_cell hT.bx 4).trans rfl
      have htk : ((selR rows rs).take (j + 1)).map Re.v = ((selR rows rs).take j).map Re.v ++ [(rowAt rows rs[j]).v] := by
        unfold selR
        rw [List.take_add_one, List.getElem?_map, List.getElem?_eq_getElem hlt, List.map_append]
        rfl
      have HTK := Aside0.mk htk
      obtain ⟨n, hnx⟩ : ∃ n : Nat, rs[j].f = (n : Int) := ⟨rs[j].f.toNat, by have := hgx.f1; omega⟩
      have hnr : (n : Int) < (rows.length : Int) := by rw [← hnx]; exact hgx.fl
      have hnr2 : n < rows.length := by omega
      have hn0 : (0 : Int) ≤ (n : Int) := by omega
      rw [hnx] at x0
      rw [← hra, hnx, Int.toNat_natCast] at hc
      unfold Re.v at hc
      generalize rowAt rows rs[j] = re at *
      have g0 : (0 : Int) ≤ (j : Int) := by omega
      have g1 : (j : Int) < (rs.length : Int) := by omega
      have hlow := hT.own
      clear hT hgx hra htk hnx x1 x2 x3 hfl hlow
      have HN := Aside0.mk (And.intro hgw hn)
      have HWR := Aside0.mk (show wrap64 ((j : Int) + 1) = (j : Int) + 1 by unfold wrap64; omega)
      clear hgw hn
      obtain ⟨rA, rb', ro', rc, res⟩ := re
      simp only at hc
      generalize hrl : res.length = rl at *
      go_wp2_with fail
      go_region_law (refine step_row (w0 := w) (W := wr.drew) (base := w.heap.size) ?hw (.tmp 19) (.tmp 34) ?ho u4 j (((selR rows rs).take j).map Re.v) (.slice rA rl rc) rfl rfl ?hs ?hx ?hO ?hB ?hz ?hl ?_; (case hw => simp [Region.wanted]); (case ho => rfl); (case hs => simp [Act.eval, Act.put]); (case hx => simp [Act.eval, Act.put]); (case hO => exact own_below HO.out (by (repeat' (first | with_reducible exact Below.refl _ _ | with_reducible assumption | with_reducible apply bdrew | with_reducible apply bdrewN | with_reducible apply balloc | with_reducible refine bset ?_ (Nat.le_refl _))))); (case hB => exact bdrew HB.out); (case hz => exact HB.out.size); (case hl => have := HN.out.2; omega); intro v1 w3 hown hB3 hg3; have HW3 := Aside0.mk (And.intro hown hB3); clear hown hB3 hg3)
      all_goals
        simp only [List.getElem_toArray, List.getElem_cons_succ, List.getElem_cons_zero, Act.put, List.setIfInBounds_toArray, List.set_cons_zero, List.set_cons_succ]
        go_wp2_with fail
        refine ⟨⟨j + 1, by omega, by rw [HWR.out]; rfl, ⟨?_⟩, ⟨HW3.out.2⟩⟩, by rw [HWR.out]; simp only [intOf]; omega⟩
        rw [HTK.out]
        subst hrl
        exact HW3.out.1
    · obtain rfl : j = rs.length := by omega
      have t1 : decide (rs.length < rs.length) = false := decide_eq_false hlt
      have hsl : (selR rows rs).length = rs.length := by simp [selR]
      have hO := HO.out
      rw [List.take_of_length_le (Nat.le_of_eq hsl), ← hsl] at hO
      have hok : ∀ r ∈ selR rows rs, r.ok wr := fun r hr => by
        obtain ⟨x, hx, rfl⟩ := List.mem_map.1 hr
        have hgx := HH.out.2.2.2.2.2.2.1 x hx
        obtain ⟨h1, h2⟩ := rowAt_get hgx.f1 hgx.fl
        exact RowK.re_ok (by rw [h2]; exact hT.rk _ (List.getElem_mem h1)) hT.be hgx.g
      obtain ⟨A2, b2, c2, rfl, hA2, hrr⟩ := own_rerow hO hok
      have HAL := Aside0.mk (mall_c (rc := c2) hA2 hrr (by rw [hsl]; omega) (by have := HH.out.2.2.2.2.2.2.2; omega))
      clear hO hok hA2 hrr hT
      have HSL := Aside0.mk hsl
      clear hsl
      generalize hsn : (selR rows rs).length = sn at *
      clear hsn
      go_upto_region 7 with (first
        | (go_at_call 14
           refine HAL.out.mono ?_
           rintro e w5 ⟨v5, outs, rfl, ho5, hk5, hr5, hq5, hn5, hb5⟩
           obtain ⟨A5, g5, c5, rfl, hc5, hcc5, hA5, hrow5⟩ := own_row ho5 hr5
           have H5 := Aside0.mk (And.intro hA5 (And.intro hrow5 (And.intro hk5 (And.intro hq5 (And.intro hn5 hb5)))))
           clear ho5 hk5 hr5 hq5 hn5 hb5 hc5 hcc5 hA5 hrow5)
        | fail)
      have hT5 := HT.out.below H5.out.2.2.2.2.2
      have z0 : w5.cell? ⟨tb, 0, none⟩ = some (.slice R gs.length c) := (blk_cell hT5.bx 0).trans rfl
      have z1 : w5.cell? ⟨tb, 1, none⟩ = some (.int .i64 keep) := (blk_cell hT5.bx 1).trans rfl
      have z2 : w5.cell? ⟨tb, 2, none⟩ = some (.int .i64 m) := (blk_cell hT5.bx 2).trans rfl
      have hB5 : Below w.heap.size w w5 := HB.out.trans (H5.out.2.2.2.2.2.mono HB.out.size)
      have hcl : ∀ W, Below w5.heap.size w5 W → Calls Try.prog 12 #[rulV R gs.length c keep, .int .i64 m, .slice A5 outs.length c5] W fun e w' => ∃ v outs2, e = .returned (.tuple #[v, .int .i64 (chkK gs keep m (allK rows rs))]) ∧ Below w.heap.size w w' ∧ (chkK gs keep m (allK rows rs) = 0 → w'.ownsRow w.heap.size 56 7 v (outs2 : List Ent).length (outs2.flatMap Ent.cells) ∧ (∀ x ∈ outs2, EntOk w.heap.size w' x) ∧ outs2.map Ent.ka = foldK (atF gs keep m) (allK rows rs)) := fun W hW => by
        have hbw := hB5.trans (hW.mono hB5.size)
        refine (ffold_c (c := c) (c2 := c5) HH.out.1 (HH.out.2.1.below (hT5.be.trans (hW.mono hT5.be.size))) HH.out.2.2.1 (fun h => (H5.out.1 h).1) (H5.out.2.1.below hW) H5.out.2.2.2.2.1 (fun x hx => ⟨(H5.out.2.2.2.1 x hx).2.1, (H5.out.2.2.2.1 x hx).2.2.2⟩) (fun x hx => ⟨(H5.out.2.2.2.1 x hx).1.ok, (H5.out.2.2.2.1 x hx).1.mn, (H5.out.2.2.2.1 x hx).1.mx⟩)).mono ?_
        rintro e w' ⟨v, outs2, h1, h2, h3, h4⟩
        have hke : chk gs keep m outs = chkK gs keep m (allK rows rs) := by rw [chk_ka, H5.out.2.2.1]; rfl
        rw [hke] at h1 h4
        refine ⟨v, outs2, h1, hbw.trans (h2.mono hbw.size), fun hz => ?_⟩
        have hf := h4 hz
        refine ⟨own_down hf.own hbw.size, fun x hx => own_down (hf.rd x hx) hbw.size, ?_⟩
        rw [hf.kv, H5.out.2.2.1]
        rfl
      unfold rulV at hcl
      have HCL := Aside0.mk hcl
      have hTw := HH.out.2.2.2.1
      have HZ := Aside0.mk (And.intro (show w.cell? ⟨tb, 0, none⟩ = some (.slice R gs.length c) from (blk_cell hTw.bx 0).trans rfl) (And.intro (show w.cell? ⟨tb, 1, none⟩ = some (.int .i64 keep) from (blk_cell hTw.bx 1).trans rfl) (show w.cell? ⟨tb, 2, none⟩ = some (.int .i64 m) from (blk_cell hTw.bx 2).trans rfl)))
      have HT5 := Aside0.mk hT5
      clear hcl hT5 hB5 hTw
      by_cases hz : chkK gs keep m (allK rows rs) = 0
      · rw [hz] at HCL
        have HZZ := Aside0.mk hz
        clear hz
        have d0 : w5.drew.cell? ⟨tb, 0, none⟩ = some (.slice R gs.length c) := z0
        have d1 : w5.drew.cell? ⟨tb, 1, none⟩ = some (.int .i64 keep) := z1
        have d2 : w5.drew.cell? ⟨tb, 2, none⟩ = some (.int .i64 m) := z2
        go_region_held3 (fun w' => w'.cell? ⟨tb, 0, none⟩ = some (.slice R gs.length c) ∧ w'.cell? ⟨tb, 1, none⟩ = some (.int .i64 keep) ∧ w'.cell? ⟨tb, 2, none⟩ = some (.int .i64 m)) (first | exact ⟨by assumption, by assumption, by assumption⟩ | (trace_state; fail)) (first | (go_at_call 12; refine (HCL.out _ (by (repeat' (first | with_reducible exact Below.refl _ _ | with_reducible assumption | with_reducible apply bdrew | with_reducible apply bdrewN | with_reducible apply balloc | with_reducible refine bset ?_ (Nat.le_refl _))))).mono ?_; rintro e w6 ⟨v6, outs6, rfl, hb6, hk6⟩; have H6 := Aside0.mk (And.intro hb6 hk6); clear hb6 hk6; have y0 : w6.cell? ⟨tb, 0, none⟩ = some (.slice R gs.length c) := cell_below H6.out.1 HZ.out.1; have y1 : w6.cell? ⟨tb, 1, none⟩ = some (.int .i64 keep) := cell_below H6.out.1 HZ.out.2.1; have y2 : w6.cell? ⟨tb, 2, none⟩ = some (.int .i64 m) := cell_below H6.out.1 HZ.out.2.2))
        all_goals
          go_wp2_with fail
          go_ret2
          exact ⟨v6, outs6, by rw [HZZ.out]; rfl, H6.out.1, fun _ => H6.out.2 (by first | trivial | rfl)⟩
      · have e0 : (chkK gs keep m (allK rows rs) == 0) = false := by simp [hz]
        have HNZ := Aside0.mk hz
        generalize chkK gs keep m (allK rows rs) = q at HCL e0
        clear hz
        have d0 : w5.drew.cell? ⟨tb, 0, none⟩ = some (.slice R gs.length c) := z0
        have d1 : w5.drew.cell? ⟨tb, 1, none⟩ = some (.int .i64 keep) := z1
        have d2 : w5.drew.cell? ⟨tb, 2, none⟩ = some (.int .i64 m) := z2
        go_region_held3 (fun w' => w'.cell? ⟨tb, 0, none⟩ = some (.slice R gs.length c) ∧ w'.cell? ⟨tb, 1, none⟩ = some (.int .i64 keep) ∧ w'.cell? ⟨tb, 2, none⟩ = some (.int .i64 m)) (first | exact ⟨by assumption, by assumption, by assumption⟩ | (trace_state; fail)) (first | (go_at_call 12; refine (HCL.out _ (by (repeat' (first | with_reducible exact Below.refl _ _ | with_reducible assumption | with_reducible apply bdrew | with_reducible apply bdrewN | with_reducible apply balloc | with_reducible refine bset ?_ (Nat.le_refl _))))).mono ?_; rintro e w6 ⟨v6, outs6, rfl, hb6, hk6⟩; have H6 := Aside0.mk (And.intro hb6 hk6); clear hb6 hk6; have y0 : w6.cell? ⟨tb, 0, none⟩ = some (.slice R gs.length c) := cell_below H6.out.1 HZ.out.1; have y1 : w6.cell? ⟨tb, 1, none⟩ = some (.int .i64 keep) := cell_below H6.out.1 HZ.out.2.1; have y2 : w6.cell? ⟨tb, 2, none⟩ = some (.int .i64 m) := cell_below H6.out.1 HZ.out.2.2))
        all_goals
          go_wp2_with fail
          go_ret2
          exact ⟨v6, outs6, by rw [decide_eq_false HNZ.out]; rfl, H6.out.1, fun h => absurd h HNZ.out⟩
end Go.Proofs.Ytoikaegohkolkaa.Top
