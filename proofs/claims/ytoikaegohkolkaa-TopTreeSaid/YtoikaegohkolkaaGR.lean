/-
  What the law's loops hold; conditions: those that each theorem states.
-/
import Derived.Test.YtoikaegohkolkaaGP
import Derived.Test.YtoikaegohkolkaaGQ
namespace Go.Proofs.Ytoikaegohkolkaa.Top
set_option linter.unusedSimpArgs false
set_option linter.unusedVariables false
open Go.RowKit Go.Proofs.YtoikaegohkolkaaW.PrintWords Go.Proofs.YtoikaegohkolkaaW.PrintLast Go.Proofs.YtoikaegohkolkaaW.PrintMore Go.Proofs.Ytoikaegohkolkaa.Plain Go.Proofs.Ytoikaegohkolkaa.KFns Go.Proofs.Ytoikaegohkolkaa.Fns
/-- A row that comes in. -/
structure InR (w : World) (r : Re) : Prop where
  rk : RowK w w r
  ok : ∀ x ∈ r.es, Byt x.k ∧ AgR x.a
  gt : ∃ q, (∀ W, Below w.heap.size w W → Calls Try.prog 4 #[r.v] W fun e w' => e = .returned (.bool q) ∧ Below W.heap.size W w') ∧ (q = false → r.es.length ≤ 60 ∧ ∀ x ∈ r.es, x.k.length ≤ 300)
/-- What stands all the time. -/
structure LwI (w : World) (R : Option Addr) (c : Nat) (gs : Gr) (keep m : Int) (tb : Nat) (vr vs : Value) (rs : List Rn) (rows : List Re) (W : World) : Prop where
  tr : TrI w R c gs keep m tb vr vs rows W
  bx : W.heap[w.heap.size]? = some (.cells #[.slice R gs.length c, .int .i64 keep] 24 (0, 0))
  hg : ∀ x ∈ rs, RunG gs keep m rows x
  ok : RnOk rs
  n8 : rs.length ≤ 8
  sm : ((selR rows rs).map fun r => r.es.length).sum ≤ 1000
  rn : 0 < rows.length
theorem LwI.below {w W W1 : World} {R : Option Addr} {c : Nat} {gs : Gr} {keep m : Int} {tb : Nat} {vr vs : Value} {rs : List Rn} {rows : List Re} (h : LwI w R c gs keep m tb vr vs rs rows W) (hb : Below W.heap.size W W1) : LwI w R c gs keep m tb vr vs rs rows W1 :=
  ⟨h.tr.below hb, (hb.block _ (blk_lt h.bx)).trans h.bx, h.hg, h.ok, h.n8, h.sm, h.rn⟩
theorem Kt.rules {W W1 : World} {k : Nat} {cs : Array Value} (h : Kt W W1) (hb : W.heap[k]? = some (.cells cs 24 (0, 0))) : W1.heap[k]? = some (.cells cs 24 (0, 0)) := (h.2 k cs _ hb (by decide) (by decide) (by decide)).trans hb
/-- The first loop. -/
structure LwA (w : World) (R : Option Addr) (c : Nat) (gs : Gr) (keep m : Int) (tb j : Nat) (vr vs : Value) (rs : List Rn) (rows : List Re) (W : World) : Prop where
  lw : LwI w R c gs keep m tb vr vs rs rows W
  own : W.ownsRow w.heap.size 47 4 vr rs.length (rs.flatMap Rn.cells)
  l0 : ∀ x ∈ rs, x.l = 0
  fl : ∀ x ∈ rs, x.f < (rows.length : Int)
  rl : rows.length = rs.length + 1
  rj : rs.length ≤ j
  s60 : ((selR rows rs).map fun r => r.es.length).sum ≤ 60 * rs.length
theorem rowAt_last {rows : List Re} {r : Re} {l n : Int} {s : Bool} : rowAt (rows ++ [r]) ⟨rows.length, l, n, s⟩ = r := by
  unfold rowAt
  rw [List.getD_eq_getElem?_getD, List.getElem?_append_right (by simp)]
  simp
theorem selR_app {gs : Gr} {keep m : Int} {rows : List Re} {rs : List Rn} (h : ∀ x ∈ rs, RunG gs keep m rows x) (r : Re) : selR (rows ++ [r]) rs = selR rows rs := by
  unfold selR
  exact List.map_congr_left fun x hx => rowAt_app (h x hx).f1 (h x hx).fl r
theorem rowg_of {gs : Gr} {keep m : Int} {es : List Ent} (hc : chk gs keep m es = 0) (h : ∀ x ∈ es, Byt x.k ∧ AgR x.a) (hk : ∀ x ∈ es, x.k.length ≤ 300) (hn : es.length ≤ 60) : RowG gs keep m es := by
  refine ⟨kvg_of (by rw [← chk_ka]; exact hc) fun y hy => ?_, by omega⟩
  obtain ⟨x, hx, rfl⟩ := List.mem_map.1 hy
  exact ⟨(h x hx).1, by have := hk x hx; show x.k.length ≤ 1000000; omega, (h x hx).2⟩
/-- One more row was put in. -/
theorem LwA.add {w W W1 : World} {R : Option Addr} {c : Nat} {gs : Gr} {keep m : Int} {tb j : Nat} {vr vs vr' vs' : Value} {rs : List Rn} {rows : List Re} {r : Re} {q : Bool} (h : LwA w R c gs keep m tb j vr vs rs rows W) (hj : j < 8) (hr : RowG gs keep m r.es) (hn : r.es.length ≤ 60) (hne : r.es ≠ []) (hq : q = r.es.any fun x => staleE gs keep m x.k)
    (ht : TrI w R c gs keep m tb vr' vs' (rows ++ [r]) W1) (ho : W1.ownsRow w.heap.size 47 4 vr' (rs ++ [(⟨rows.length, 0, r.es.length, q⟩ : Rn)]).length ((rs ++ [(⟨rows.length, 0, r.es.length, q⟩ : Rn)]).flatMap Rn.cells)) (hk : Kt W W1) :
    LwA w R c gs keep m tb (j + 1) vr' vs' (rs ++ [⟨rows.length, 0, r.es.length, q⟩]) (rows ++ [r]) W1 := by
  have hsel : selR (rows ++ [r]) (rs ++ [⟨rows.length, 0, r.es.length, q⟩]) = selR rows rs ++ [r] := by
    have h1 := selR_app h.lw.hg r
    unfold selR at h1 ⊢
    rw [List.map_append, h1, List.map_cons, List.map_nil, rowAt_last]
  have hrj := h.rj
  have hrl := h.rl
  have hs := h.s60
  have hpos := List.length_pos_iff.2 hne
  refine ⟨⟨ht, hk.rules h.lw.bx, fun x hx => ?_, ⟨by simp; omega, fun x hx => ?_, fun x hx => ?_, fun x hx => ?_, ?_, .inr fun x hx => ?_⟩, by simp; omega, by rw [hsel, List.map_append, List.sum_append]; simp; omega, by simp⟩, ho, fun x hx => ?_, fun x hx => ?_, by simp; omega, by simp; omega, by rw [hsel, List.map_append, List.sum_append]; simp; omega⟩
  · rcases List.mem_append.1 hx with hx | hx
    · exact (h.lw.hg x hx).app r
    · obtain rfl := List.mem_singleton.1 hx
      exact ⟨by show (1 : Int) ≤ (rows.length : Int); omega, by show (rows.length : Int) < _; simp only [List.length_append, List.length_singleton]; omega, by rw [rowAt_last], by rw [rowAt_last]; exact hq, by rw [rowAt_last]; exact hr⟩
  · rcases List.mem_append.1 hx with hx | hx
    · exact h.lw.ok.fp x hx
    · obtain rfl := List.mem_singleton.1 hx
      show (1 : Int) ≤ (rows.length : Int) ∧ (rows.length : Int) < _
      omega
  · rcases List.mem_append.1 hx with hx | hx
    · exact h.lw.ok.lv x hx
    · obtain rfl := List.mem_singleton.1 hx
      exact ⟨Int.le_refl _, by show (0 : Int) < 4; omega⟩
  · rcases List.mem_append.1 hx with hx | hx
    · exact h.lw.ok.np x hx
    · obtain rfl := List.mem_singleton.1 hx
      show (1 : Int) ≤ (r.es.length : Int) ∧ (r.es.length : Int) < _
      omega
  · refine List.pairwise_append.2 ⟨h.lw.ok.df, List.pairwise_singleton _ _, fun x hx y hy => ?_⟩
    obtain rfl := List.mem_singleton.1 hy
    exact h.fl x hx
  · rcases List.mem_append.1 hx with hx | hx
    · exact h.l0 x hx
    · obtain rfl := List.mem_singleton.1 hx
      rfl
  · rcases List.mem_append.1 hx with hx | hx
    · exact h.l0 x hx
    · obtain rfl := List.mem_singleton.1 hx
      rfl
  · rcases List.mem_append.1 hx with hx | hx
    · have := h.fl x hx
      rw [List.length_append]
      simp
      omega
    · obtain rfl := List.mem_singleton.1 hx
      show (rows.length : Int) < _
      simp only [List.length_append, List.length_singleton]
      omega
theorem LwA.below {w W W1 : World} {R : Option Addr} {c : Nat} {gs : Gr} {keep m : Int} {tb j : Nat} {vr vs : Value} {rs : List Rn} {rows : List Re} (h : LwA w R c gs keep m tb j vr vs rs rows W) (hb : Below W.heap.size W W1) : LwA w R c gs keep m tb j vr vs rs rows W1 :=
  ⟨h.lw.below hb, own_below h.own hb, h.l0, h.fl, h.rl, h.rj, h.s60⟩
theorem LwA.skip {w W W1 : World} {R : Option Addr} {c : Nat} {gs : Gr} {keep m : Int} {tb j : Nat} {vr vs : Value} {rs : List Rn} {rows : List Re} (h : LwA w R c gs keep m tb j vr vs rs rows W) (hb : Below W.heap.size W W1) : LwA w R c gs keep m tb (j + 1) vr vs rs rows W1 :=
  ⟨h.lw.below hb, own_below h.own hb, h.l0, h.fl, h.rl, by have := h.rj; omega, h.s60⟩
theorem own_runat {W : World} {B : Nat} {v : Value} {rs : List Rn} (h : W.ownsRow B 47 4 v rs.length (rs.flatMap Rn.cells)) : RunAt W v rs := by
  rcases h.2 with ⟨e, h0⟩ | ⟨g, cp, cur, e, hg, hb, h1, h2, h3, h4⟩
  · have : rs = [] := List.length_eq_zero_iff.1 h0
    subst this
    exact ⟨none, 0, 0, e, fun h => absurd rfl h, fun j hj => by simp at hj⟩
  · refine ⟨some ⟨g, 0, none⟩, g, cp, e, fun _ => rfl, fun j hj m u hu => ?_⟩
    have hm : m < 4 := by have := (List.getElem?_eq_some_iff.1 hu).1; simpa [Rn.cells] using this
    have := (e ▸ h).cellAt (j * 4 + m) (by omega)
    rw [this, rflat_get rs j m hj hm]
    exact hu
/-- How far putting together has come. -/
def Stg (n : Nat) (rs : List Rn) : Prop := (n = 0 ∧ ∀ x ∈ rs, x.l = 0) ∨ (1 ≤ n ∧ n ≤ 3 ∧ (rs = [] ∨ ∃ x, rs = [x] ∧ x.s = false ∧ (x.l = n ∨ (x.l = 0 ∧ n = 1))))
/-- What is offered, and what comes of it. -/
theorem stg_some {n : Nat} {rs : List Rn} {zs : List Int} {lv : Int} (hs : Stg n rs) (ho : offerF rs = some (zs, lv)) : zs = rs.map Rn.f ∧ (0 ≤ lv ∧ lv < 4) ∧ 0 < rs.length ∧ n ≤ 2 ∧ ∀ (f c : Int), Stg (n + 1) (newRuns f lv c) := by
  have fin : ∀ (f c : Int), (lv = ((n + 1 : Nat) : Int) ∨ (lv = 0 ∧ n = 0)) → n ≤ 2 → Stg (n + 1) (newRuns f lv c) := fun f c h1 h2 => by
    refine .inr ⟨by omega, by omega, ?_⟩
    unfold newRuns
    split
    · exact .inl rfl
    · refine .inr ⟨_, rfl, rfl, ?_⟩
      rcases h1 with h1 | ⟨h1, h3⟩
      · exact .inl h1
      · exact .inr ⟨h1, by omega⟩
  unfold offerF at ho
  match rs, hs, ho with
  | [], hs, ho => simp [fullLv] at ho
  | x :: y :: t, hs, ho =>
    simp only [fullLv, Option.some.injEq, Prod.mk.injEq] at ho
    obtain ⟨rfl, rfl⟩ := ho
    have hn : n = 0 := by
      rcases hs with ⟨h, _⟩ | ⟨_, _, h | ⟨z, h, _⟩⟩
      · exact h
      · cases h
      · simp at h
    subst hn
    exact ⟨rfl, by omega, by simp, by omega, fun f c => fin f c (.inl (by omega)) (by omega)⟩
  | [x], hs, ho =>
    have key : ∀ l : Nat, fullLv [x] = some l → x.l = l ∧ (l = 1 ∨ l = 2) := fun l h => by
      have h : (if x.l = 1 ∧ 64 < x.n then some 1 else if x.l = 2 ∧ 256 < x.n then some 2 else none) = some l := h
      by_cases h1 : x.l = 1 ∧ 64 < x.n
      · rw [if_pos h1] at h
        cases h
        exact ⟨h1.1, .inl rfl⟩
      · rw [if_neg h1] at h
        by_cases h2 : x.l = 2 ∧ 256 < x.n
        · rw [if_pos h2] at h
          cases h
          exact ⟨h2.1, .inr rfl⟩
        · rw [if_neg h2] at h
          cases h
    cases hf : fullLv [x] with
    | some l =>
      rw [hf] at ho
      simp only [Option.some.injEq, Prod.mk.injEq] at ho
      obtain ⟨rfl, rfl⟩ := ho
      obtain ⟨hl, hl2⟩ := key l hf
      have hn : n = l := by
        rcases hs with ⟨h, h2⟩ | ⟨_, _, h | ⟨z, h, _, h3⟩⟩
        · have := h2 x (by simp)
          omega
        · cases h
        · simp at h
          subst h
          omega
      subst hn
      exact ⟨rfl, by omega, by simp, by omega, fun f c => fin f c (.inl (by omega)) (by omega)⟩
    | none =>
      rw [hf] at ho
      simp only at ho
      split at ho
      · rename_i hst
        simp only [Option.some.injEq, Prod.mk.injEq] at ho
        obtain ⟨rfl, rfl⟩ := ho
        rcases hs with ⟨h, h2⟩ | ⟨_, _, h | ⟨z, h, h4, h3⟩⟩
        · have := h2 x (by simp)
          exact ⟨rfl, by omega, by simp, by omega, fun f c => fin f c (.inr ⟨this, h⟩) (by omega)⟩
        · cases h
        · simp at h
          subst h
          rw [h4] at hst
          cases hst
      · cases ho
/-- Where nothing is offered, nothing is stale. -/
theorem offer_none {rs : List Rn} (ho : offerF rs = none) : rs.length ≤ 1 ∧ ∀ x ∈ rs, x.s = false := by
  unfold offerF at ho
  match rs, ho with
  | [], ho => simp
  | x :: y :: t, ho => simp [fullLv] at ho
  | [x], ho =>
    refine ⟨by simp, fun y hy => ?_⟩
    obtain rfl := List.mem_singleton.1 hy
    cases hs : y.s with
    | false => rfl
    | true =>
      cases hf : fullLv [y] with
      | some l => rw [hf] at ho; cases ho
      | none => rw [hf] at ho; simp [hs] at ho
/-- What is known behind a task. -/
theorem known_after {gs : Gr} {keep m lv : Int} {rows : List Re} {rs : List Rn} {r : Re} {T : Kv} (hT : KvG gs keep m T) (hr : r.kv = foldK (atF gs keep m) T) : allK (rows ++ [r]) (newRuns rows.length lv r.es.length) = foldK (atF gs keep m) T := by
  unfold newRuns
  split
  · rename_i h
    have h0 : r.es = [] := List.length_eq_zero_iff.1 (by omega)
    rw [← hr]
    unfold allK selR Re.kv
    rw [h0]
    exact allF_nil
  · unfold allK selR
    rw [List.map_cons, List.map_nil, rowAt_last, List.map_cons, List.map_nil, hr]
    exact allF_one (foldK_srt _ _)
theorem runs_after {gs : Gr} {keep m lv : Int} {rows : List Re} {r : Re} {T : Kv} (hT : KvG gs keep m T) (hr : r.kv = foldK (atF gs keep m) T) (hn : T.length ≤ 1000) (h0 : 0 < rows.length) (hrn : rows.length ≤ 100) (hlv : 0 ≤ lv ∧ lv < 4) :
    (∀ x ∈ newRuns rows.length lv r.es.length, RunG gs keep m (rows ++ [r]) x) ∧ RnOk (newRuns rows.length lv r.es.length) ∧ (newRuns rows.length lv r.es.length).length ≤ 8 ∧ ((selR (rows ++ [r]) (newRuns rows.length lv r.es.length)).map fun r => r.es.length).sum ≤ 1000 := by
  obtain ⟨g1, g2, g3, g4⟩ := hT.fold
  have hl : r.es.length ≤ 1000 := by
    have := congrArg List.length hr
    unfold Re.kv at this
    rw [List.length_map] at this
    omega
  by_cases hz : (r.es.length : Int) = 0
  · have e : newRuns rows.length lv r.es.length = [] := if_pos hz
    rw [e]
    exact ⟨fun x hx => (List.not_mem_nil hx).elim, rnok_nil, by simp, by simp [selR]⟩
  · have e : newRuns rows.length lv r.es.length = [⟨rows.length, lv, r.es.length, false⟩] := if_neg hz
    rw [e]
    refine ⟨fun x hx => ?_, rnok_one (by show (1 : Int) ≤ (rows.length : Int) ∧ (rows.length : Int) < _; omega) hlv (by show (1 : Int) ≤ (r.es.length : Int) ∧ (r.es.length : Int) < _; omega), by simp, ?_⟩
    · obtain rfl := List.mem_singleton.1 hx
      refine ⟨by show (1 : Int) ≤ (rows.length : Int); omega, by show (rows.length : Int) < _; simp only [List.length_append, List.length_singleton]; omega, by rw [rowAt_last], ?_, ?_⟩
      · rw [rowAt_last]
        symm
        rw [List.any_eq_false]
        intro x hx
        have h9 : staleE gs keep m x.k = false := g3 x.ka (by rw [← hr]; exact List.mem_map_of_mem hx)
        rw [h9]
        simp
      · rw [rowAt_last]
        exact ⟨by show KvG gs keep m r.kv; rw [hr]; exact g1, hl⟩
    · unfold selR
      rw [List.map_cons, List.map_nil, rowAt_last]
      simp
      exact hl
/-- The second loop. -/
structure Lw2 (w : World) (R : Option Addr) (c : Nat) (gs : Gr) (keep m : Int) (tb n : Nat) (F : Kv) (was : Re) (vr vs : Value) (rs : List Rn) (rows : List Re) (W : World) : Prop where
  lw : LwI w R c gs keep m tb vr vs rs rows W
  ra : RunAt W vr rs
  st : Stg n rs
  kg : KvG gs keep m (allK rows rs)
  kf : foldK (atF gs keep m) (allK rows rs) = F
  rl : rows.length ≤ 20 + n
  wk : RowK w W was
  wf : was.es.map Ent.ka = F
  fg : KvG gs keep m F
theorem Lw2.below {w W W1 : World} {R : Option Addr} {c : Nat} {gs : Gr} {keep m : Int} {tb n : Nat} {F : Kv} {was : Re} {vr vs : Value} {rs : List Rn} {rows : List Re} (h : Lw2 w R c gs keep m tb n F was vr vs rs rows W) (hb : Below W.heap.size W W1) : Lw2 w R c gs keep m tb n F was vr vs rs rows W1 :=
  ⟨h.lw.below hb, h.ra.below hb, h.st, h.kg, h.kf, h.rl, h.wk.below hb, h.wf, h.fg⟩
theorem allK_1000 {w W : World} {R : Option Addr} {c : Nat} {gs : Gr} {keep m : Int} {tb : Nat} {vr vs : Value} {rs : List Rn} {rows : List Re} (h : LwI w R c gs keep m tb vr vs rs rows W) : (allK rows rs).length ≤ 1000 := Nat.le_trans (allK_len rows rs) h.sm
/-- The first time. -/
theorem lw2_start {w W W1 : World} {R : Option Addr} {c : Nat} {gs : Gr} {keep m : Int} {tb j : Nat} {was : Re} {vr vs : Value} {rs : List Rn} {rows : List Re} (h : LwA w R c gs keep m tb j vr vs rs rows W) (hb : Below W.heap.size W W1) (hck : chkK gs keep m (allK rows rs) = 0) (hw : RowK w W1 was) (hf : was.es.map Ent.ka = foldK (atF gs keep m) (allK rows rs)) : Lw2 w R c gs keep m tb 0 (foldK (atF gs keep m) (allK rows rs)) was vr vs rs rows W1 := by
  have hkg : KvG gs keep m (allK rows rs) := all_kvg (fun r hr => by
    obtain ⟨s, hs, rfl⟩ := List.mem_map.1 hr
    obtain ⟨x, hx, rfl⟩ := List.mem_map.1 hs
    exact (h.lw.hg x hx).g.kv) hck
  exact ⟨h.lw.below hb, (own_runat h.own).below hb, .inl ⟨rfl, h.l0⟩, hkg, rfl, by have := h.rl; have := h.lw.n8; omega, hw, hf, hkg.fold.1⟩
/-- A task was done. -/
theorem Lw2.task {w W W1 : World} {R : Option Addr} {c : Nat} {gs : Gr} {keep m lv : Int} {tb n : Nat} {F : Kv} {was r : Re} {vr vs vr' vs' : Value} {rs : List Rn} {rows : List Re} {zs : List Int} (h : Lw2 w R c gs keep m tb n F was vr vs rs rows W) (ho : offerF rs = some (zs, lv)) (ht : TrI w R c gs keep m tb vr' vs' (rows ++ [r]) W1) (hra : RunAt W1 vr' (newRuns rows.length lv r.es.length)) (hkv : r.kv = foldK (atF gs keep m) (allK rows rs)) (hk : Kt W W1) :
    Lw2 w R c gs keep m tb (n + 1) F was vr' vs' (newRuns rows.length lv r.es.length) (rows ++ [r]) W1 := by
  obtain ⟨h1, h2, h3, h4, h5⟩ := stg_some h.st ho
  obtain ⟨g1, g2, g3, g4⟩ := runs_after h.kg hkv (allK_1000 h.lw) h.lw.rn (by have := h.rl; omega) h2
  have hka := known_after (lv := lv) (rows := rows) (rs := rs) h.kg hkv
  rw [h.kf] at hka
  exact ⟨⟨ht, hk.rules h.lw.bx, g1, g2, g3, g4, by simp⟩, hra, h5 _ _, by rw [hka]; exact h.fg, by
    rw [hka, ← h.kf]
    exact h.kg.fold.2.1, by have := h.rl; simp; omega, h.wk.kt hk, h.wf, h.fg⟩
/-- What is known, as a row. -/
def KnR (W : World) (F : Kv) (e : Ending) (w' : World) : Prop := ∃ (A : Option Addr) (g c : Nat) (outs : List Ent), e = .returned (.tuple #[.slice A outs.length c, .bool true]) ∧ (outs ≠ [] → A = some ⟨g, 0, none⟩) ∧ EnRow w' g 0 outs ∧ outs.map Ent.ka = F ∧ Below W.heap.size W w'
theorem Lw2.known {w W : World} {R : Option Addr} {rb ro c : Nat} {gs : Gr} {keep m : Int} {tb n : Nat} {F : Kv} {was : Re} {vr vs : Value} {rs : List Rn} {rows : List Re} (hR : gs ≠ [] → R = some ⟨rb, ro, none⟩) (hG : GRow w rb ro gs) (hl : (gs.length : Int) ≤ 9223372036854775807) (h : Lw2 w R c gs keep m tb n F was vr vs rs rows W) :
    Calls Try.prog 7 #[.pointer (some ⟨tb, 0, none⟩)] W (KnR W F) := by
  refine (known_c hR hG hl h.lw.tr h.ra h.lw.hg h.lw.n8 h.lw.sm).mono ?_
  rintro e w' ⟨v, outs, he, hb, hk⟩
  obtain ⟨h1, h2, h3⟩ := hk h.kg.chk
  obtain ⟨A, g, cp, rfl, _, _, hA, hr⟩ := own_row h1 h2
  rw [decide_eq_true h.kg.chk] at he
  exact ⟨A, g, cp, outs, he, fun hn => (hA hn).1, hr, by rw [h3, h.kf], hb⟩
theorem Lw2.same {w W W1 : World} {R : Option Addr} {c g c2 : Nat} {A : Option Addr} {gs : Gr} {keep m : Int} {tb n : Nat} {F : Kv} {was : Re} {vr vs : Value} {rs : List Rn} {rows : List Re} {outs : List Ent} (h : Lw2 w R c gs keep m tb n F was vr vs rs rows W) (hb : Below W.heap.size W W1) (h0 : was.o = 0) (hn : was.es.length ≤ 1000) (hA : outs ≠ [] → A = some ⟨g, 0, none⟩) (hr : EnRow W1 g 0 outs) (hk : outs.map Ent.ka = F) :
    Calls Try.prog 10 #[.slice A outs.length c2, was.v] W1 fun e w' => e = .returned (.bool true) ∧ Below W1.heap.size W1 w' := by
  have hwr := (h.wk.below hb).row (h.lw.tr.be.trans (hb.mono h.lw.tr.be.size))
  rw [h0] at hwr
  refine same_c (b2 := was.b) hA (fun hne => by have := h.wk.at_ hne; rw [h0] at this; exact this) hr hwr (by rw [hk, h.wf]) ?_ fun x hx => ?_
  · have h1 := congrArg List.length hk
    have h2 := congrArg List.length h.wf
    rw [List.length_map] at h1 h2
    omega
  · have := (h.fg.ok x.ka (by rw [← hk]; exact List.mem_map_of_mem hx)).1
    exact ⟨this.byt, this.len⟩
/-- A run's row is not stale. -/
theorem lw_stale {w W : World} {R : Option Addr} {rb ro c : Nat} {gs : Gr} {keep m : Int} {tb : Nat} {vr vs : Value} {rs : List Rn} {rows : List Re} (hR : gs ≠ [] → R = some ⟨rb, ro, none⟩) (hG : GRow w rb ro gs) (hl : (gs.length : Int) ≤ 9223372036854775807) (h : LwI w R c gs keep m tb vr vs rs rows W) {x : Rn} (hx : x ∈ rs) (hs : x.s = false) :
    Calls Try.prog 11 #[rulV R gs.length c keep, .int .i64 m, (rowAt rows x).v] W fun e w' => e = .returned (.tuple #[.bool false, .int .i64 0]) ∧ Below W.heap.size W w' := by
  have hg := h.hg x hx
  obtain ⟨h1, h2⟩ := rowAt_get hg.f1 hg.fl
  have hrk := h.tr.rk _ (List.getElem_mem h1)
  rw [← h2] at hrk
  refine (stale_c (c := c) (c2 := (rowAt rows x).c) hR (hG.below h.tr.be) hl hrk.at_ (hrk.row h.tr.be) (by have := hg.g.n; omega) hg.g.enok).mono ?_
  rintro e w' ⟨q, he, hq, hb⟩
  have hc := hg.g.chk
  have hq2 := hq hc
  rw [← hg.s, hs] at hq2
  rw [hc, hq2] at he
  exact ⟨he, hb⟩
/-- What the law gives. -/
def LawR (w : World) (e : Ending) (w' : World) : Prop := e = .returned (.bool true) ∧ Below w.heap.size w w'
theorem law_start {w : World} {R : Option Addr} {c : Nat} {gs : Gr} {keep m : Int} : LwA w R c gs keep m (w.heap.size + 2) 0 (.slice none 0 0) (.slice (some ⟨w.heap.size + 1, 0, none⟩) 1 1) [] [nilRe] (((w.alloc (.cells #[.slice R gs.length c, .int .i64 keep] 24)).alloc (.cells #[.slice none 0 0] 31)).alloc (.cells #[.slice R gs.length c, .int .i64 keep, .int .i64 m, .slice none 0 0, .slice (some ⟨w.heap.size + 1, 0, none⟩) 1 1] 29)) := by
  have h1 := (Below.refl _ w).alloc (Nat.le_refl _) (.cells #[.slice R gs.length c, .int .i64 keep] 24)
  have h2 := h1.alloc h1.size (.cells #[.slice none 0 0] 31)
  have h3 := h2.alloc h2.size (.cells #[.slice R gs.length c, .int .i64 keep, .int .i64 m, .slice none 0 0, .slice (some ⟨w.heap.size + 1, 0, none⟩) 1 1] 29)
  have n1 := al_new (W := w) (o := .cells #[.slice R gs.length c, .int .i64 keep] 24) (k := w.heap.size) rfl
  have n2 := al_new (W := w.alloc (.cells #[.slice R gs.length c, .int .i64 keep] 24)) (o := .cells #[.slice none 0 0] 31) (k := w.heap.size + 1) (by rw [World.size_alloc])
  have n3 := al_new (W := (w.alloc (.cells #[.slice R gs.length c, .int .i64 keep] 24)).alloc (.cells #[.slice none 0 0] 31)) (o := .cells #[.slice R gs.length c, .int .i64 keep, .int .i64 m, .slice none 0 0, .slice (some ⟨w.heap.size + 1, 0, none⟩) 1 1] 29) (k := w.heap.size + 2) (by rw [World.size_alloc, World.size_alloc])
  refine ⟨⟨⟨h3, n3, ⟨rfl, .inr ⟨w.heap.size + 1, 1, #[.slice none 0 0], rfl, by omega, al_old n2 _, Nat.le_refl _, by simp only [maxLen]; omega, rfl, rfl⟩⟩, by omega, fun r hr => ?_⟩, al_old (al_old n1 _) _, fun x hx => (List.not_mem_nil hx).elim, rnok_nil, by simp, by simp [selR], by simp⟩, World.ownsRow_nil _ _ _ _, fun x hx => (List.not_mem_nil hx).elim, fun x hx => (List.not_mem_nil hx).elim, rfl, by simp, by simp [selR]⟩
  obtain rfl := List.mem_singleton.1 hr
  exact ⟨fun h => absurd rfl h, Nat.le_refl _, by show 0 ≤ _; omega, .inl ⟨fun j hj => by simp [nilRe] at hj, fun x hx => by simp [nilRe] at hx⟩⟩
set_option maxRecDepth 100000 in
set_option maxHeartbeats 16000000 in
theorem law_walk {w : World} {R : Option Addr} {rb ro c : Nat} {gs : Gr} {keep m : Int} {RR : Option Addr} {nb no nc : Nat} {ins : List Re} (hR : gs ≠ [] → R = some ⟨rb, ro, none⟩) (hG : GRow w rb ro gs) (hl : (gs.length : Int) ≤ 9223372036854775807) (hRR : ins ≠ [] → RR = some ⟨nb, no, none⟩) (hI : ∀ j (hj : j < ins.length), w.cell? ⟨nb, no + j, none⟩ = some ins[j].v) (hin : ∀ r ∈ ins, InR w r) (hil : ins.length ≤ 9223372036854775807) :
    Calls Try.prog 3 #[rulV R gs.length c keep, .int .i64 m, .slice RR ins.length nc] w (LawR w) := by
  have HH := Aside0.mk (And.intro hR (And.intro hG (And.intro hl (And.intro hRR (And.intro hI hin)))))
  have HS := Aside0.mk (law_start (w := w) (R := R) (c := c) (gs := gs) (keep := keep) (m := m))
  unfold rulV
  clear hR hG hl hRR hI hin
  go_enter Try.func3, Try.ntmps3
  go_wp2_with fail
  obtain ⟨tb, htb⟩ : ∃ n, n = w.heap.size + 2 := ⟨_, rfl⟩
  rw [← htb] at HS
  generalize ((w.alloc (.cells #[.slice R gs.length c, .int .i64 keep] 24)).alloc (.cells #[.slice none 0 0] 31)).alloc (.cells #[.slice R gs.length c, .int .i64 keep, .int .i64 m, .slice none 0 0, .slice (some ⟨w.heap.size + 1, 0, none⟩) 1 1] 29) = w1 at *
  have htb2 : w.heap.size + 1 + 1 = tb := by omega
  rw [htb2]
  have HTB := Aside0.mk htb
  clear htb htb2
  go_loopw [8] (fun i wr => ∃ (j : Nat) (vr vs : Value) (rs : List Rn) (rows : List Re), i = .int .i64 j ∧ j ≤ ins.length ∧ j ≤ 8 ∧ Aside0 (LwA w R c gs keep m tb j vr vs rs rows wr)) (fun i _ => ins.length - (intOf i).toNat)
  case atStart => exact ⟨0, _, _, [], [nilRe], rfl, by omega, by omega, HS⟩
  case round =>
    clear HS
    obtain ⟨j, vr, vs, rs, rows, rfl, hj, hj8, HA⟩ := hrel
    have HBE := Aside0.mk HA.out.lw.tr.be
    by_cases hlt8 : j < ins.length ∧ j < 8
    · obtain ⟨hlt, h8⟩ := hlt8
      have t1 : decide (j < ins.length) = true := decide_eq_true hlt
      have h8' := h8
      clear h8'
      · have t2 : decide (j < 8) = true := decide_eq_true h8
        have t3 : decide ((j : Int) < 8) = true := decide_eq_true (by omega)
        obtain rfl := HH.out.2.2.2.1 (by intro e; rw [e] at hlt; simp at hlt)
        have x0 := cell_below HBE.out (HH.out.2.2.2.2.1 j hlt)
        have hir := HH.out.2.2.2.2.2 _ (List.getElem_mem hlt)
        generalize ins[j] = r at *
        obtain ⟨q, hgc, hgq⟩ := hir.gt
        have HGC := Aside0.mk (hgc _ HBE.out)
        have HIR := Aside0.mk (And.intro hir hgq)
        clear hir hgc hgq
        obtain ⟨A, ab, ao, ac, es⟩ := r
        unfold Re.v at x0 HGC
        simp only at x0 HGC HIR
        have hwr : wrap64 ((j : Int) + 1) = (j : Int) + 1 := by unfold wrap64; omega
        have HWR := Aside0.mk hwr
        clear hwr
        obtain ⟨el, hel⟩ : ∃ n, n = es.length := ⟨_, rfl⟩
        rw [← hel] at x0 HGC
        have HEL := Aside0.mk hel
        clear hel
        cases q with
        | true =>
          go_wp2_with (first
            | (go_at_call 4; refine HGC.out.mono ?_; rintro e w2 ⟨rfl, hb2⟩; have x2 := cell_below hb2 x0; have HB2 := Aside0.mk hb2; clear hb2)
            | (go_at_call 5; refine (alive_c _).mono ?_; rintro e w3 ⟨rfl, hb3⟩; have HB3 := Aside0.mk hb3; clear hb3)
            | go_step3 | fail)
          go_ret
          exact ⟨rfl, (HBE.out.trans (HB2.out.mono HBE.out.size)).trans (HB3.out.mono (Nat.le_trans HBE.out.size HB2.out.size))⟩
        | false =>
          by_cases he : es = []
          · have hel0 : el = 0 := by rw [HEL.out, he]; rfl
            subst hel0
            go_wp2_with (first
              | (go_at_call 4; refine HGC.out.mono ?_; rintro e w2 ⟨rfl, hb2⟩; have x2 := cell_below hb2 x0; have HB2 := Aside0.mk hb2; clear hb2)
              | go_step3 | fail)
            refine ⟨⟨j + 1, vr, vs, rs, rows, by first | rfl | go_num | (rw [HWR.out]; rfl), by omega, by omega, ⟨HA.out.skip HB2.out⟩⟩, by simp only [intOf]; omega⟩
          · have hep : 0 < el := by rw [HEL.out]; exact List.length_pos_iff.2 he
            have e1 : decide (0 < el) = true := decide_eq_true hep
            have e2 : (0 : Int) < (el : Int) := by omega
            have HNE := Aside0.mk he
            clear he
            have hgq := HIR.out.2 rfl
            have hadd : ∀ w2, Below wr.heap.size wr w2 → Calls Try.prog 6 #[.pointer (some ⟨tb, 0, none⟩), .int .i64 0, .slice A el ac] w2 (AddR w w2 R c gs keep m tb rs rows ⟨A, ab, ao, ac, es⟩) := fun w2 hb2 => by
              have hA := HA.out.skip hb2
              rw [HEL.out]
              exact tadd_c (r := ⟨A, ab, ao, ac, es⟩) HH.out.1 HH.out.2.1 HH.out.2.2.1 hA.lw.tr hA.own (HIR.out.1.rk.below (HBE.out.trans (hb2.mono HBE.out.size))) (fun x hx => ⟨(HIR.out.1.ok x hx).1, by have := hgq.2 x hx; omega⟩) (by show es.length ≤ 1000; omega) hA.lw.rn (by have := hA.rl; have := hA.lw.n8; omega) (by have := hA.lw.n8; omega)
            have HADD := Aside0.mk hadd
            have HGQ := Aside0.mk hgq
            clear hadd hgq
            by_cases hck : chk gs keep m es = 0
            · have HCK := Aside0.mk hck
              go_wp2_with (first
                | (go_at_call 4; refine HGC.out.mono ?_; rintro e w2 ⟨rfl, hb2⟩; have x2 := cell_below hb2 x0; have HB2 := Aside0.mk hb2; clear hb2)
                | (go_at_call 6
                   refine (HADD.out _ HB2.out).mono ?_
                   rintro e w3 ⟨vr', vs', q, he, hq, ht, ho, hk⟩
                   have he2 : e = .returned (.bool true) := he.trans (congrArg (fun b => Ending.returned (.bool b)) (decide_eq_true HCK.out))
                   clear he
                   subst he2
                   have HR := Aside0.mk (LwA.add (HA.out.below HB2.out) h8 (rowg_of HCK.out HIR.out.1.ok HGQ.out.2 HGQ.out.1) HGQ.out.1 HNE.out (hq HCK.out) ht ho hk)
                   clear hq ht ho hk)
                | go_step3 | fail)
              refine ⟨⟨j + 1, vr', vs', _, _, by first | rfl | go_num | (rw [HWR.out]; rfl), by omega, by omega, HR⟩, by simp only [intOf]; omega⟩
            · have HCK := Aside0.mk hck
              go_wp2_with (first
                | (go_at_call 4; refine HGC.out.mono ?_; rintro e w2 ⟨rfl, hb2⟩; have x2 := cell_below hb2 x0; have HB2 := Aside0.mk hb2; clear hb2)
                | (go_at_call 6
                   refine (HADD.out _ HB2.out).mono ?_
                   rintro e w3 ⟨vr', vs', q, he, hq, ht, ho, hk⟩
                   have he2 : e = .returned (.bool false) := he.trans (congrArg (fun b => Ending.returned (.bool b)) (decide_eq_false HCK.out))
                   clear he
                   subst he2
                   have HT3 := Aside0.mk ht.be
                   clear hq ht ho hk)
                | (go_at_call 5; refine (alive_c _).mono ?_; rintro e w4 ⟨rfl, hb4⟩; have HB4 := Aside0.mk hb4; clear hb4)
                | go_step3 | fail)
              go_ret
              exact ⟨rfl, HT3.out.trans (HB4.out.mono HT3.out.size)⟩
    · have hA := HA.out
      obtain ⟨Ar, br, cr, rfl, hAr, hrow⟩ := own_runat hA.own
      have HKN := Aside0.mk (known_c HH.out.1 HH.out.2.1 HH.out.2.2.1 hA.lw.tr (own_runat hA.own) hA.lw.hg hA.lw.n8 hA.lw.sm)
      have hx : decide (j < ins.length) = false ∨ (decide (j < ins.length) = true ∧ decide (j < 8) = false ∧ decide ((j : Int) < 8) = false) := by
        by_cases hlt : j < ins.length
        · exact .inr ⟨decide_eq_true hlt, decide_eq_false (by omega), decide_eq_false (by omega)⟩
        · exact .inl (decide_eq_false hlt)
      clear hA hAr hrow hlt8
      by_cases hck : chkK gs keep m (allK rows rs) = 0
      · have HCK := Aside0.mk hck
        clear hck
        rcases hx with t1 | ⟨t1, t2, t3⟩
        all_goals
          go_upto_region 12 with (first
            | (go_at_call 7
               refine HKN.out.mono ?_
               rintro e w2 ⟨v2, outs, he, hb2, hk2⟩
               have he2 : e = .returned (.tuple #[v2, .bool true]) := he.trans (congrArg (fun b => Ending.returned (.tuple #[v2, .bool b])) (decide_eq_true HCK.out))
               clear he
               subst he2
               have HK2 := Aside0.mk (And.intro hb2 (hk2 HCK.out))
               clear hb2 hk2)
            | go_step3 | fail)
          obtain ⟨A9, g9, c9, rfl, hc9, hcc9, hA9, hrow9⟩ := own_row HK2.out.2.1 HK2.out.2.2.1
          have hwk : RowK w w2 ⟨A9, g9, 0, c9, outs⟩ := ⟨fun h => (hA9 h).1, hc9, hcc9, .inr ⟨own_down HK2.out.2.1 HBE.out.size, fun x hx => own_down (HK2.out.2.2.1 x hx) HBE.out.size, rfl⟩⟩
          have h2s := lw2_start HA.out HK2.out.1 HCK.out hwk HK2.out.2.2.2
          have hno : outs.length ≤ 1000 := by
            have h1 := congrArg List.length HK2.out.2.2.2
            have h2 := foldK_len (atF gs keep m) (allK rows rs)
            have h3 := allK_1000 HA.out.lw
            rw [List.length_map] at h1
            omega
          have k3 : w2.cell? ⟨tb, 3, none⟩ = some (.slice Ar rs.length cr) := (blk_cell h2s.lw.tr.bx 3).trans rfl
          have hw3 : wrap64 ((rs.length : Int) + 3) = (rs.length : Int) + 3 := by have := HA.out.lw.n8; unfold wrap64; omega
          have HNO := Aside0.mk hno
          have HL0 := Aside0.mk h2s
          clear hc9 hcc9 hA9 hrow9 hwk h2s hno HK2
          generalize foldK (atF gs keep m) (allK rows rs) = F at *
          obtain ⟨mst, hmst⟩ : ∃ z : Int, z = (rs.length : Int) + 3 := ⟨_, rfl⟩
          rw [← hmst] at hw3
          have HM := Aside0.mk (show (3 : Int) ≤ mst by omega)
          go_wp2_with fail
          try rw [← hmst]
          try rw [hw3]
          clear hmst hw3 k3
          go_loopw [12] (fun i wl => ∃ (n : Nat) (vr' vs' : Value) (rs' : List Rn) (rows' : List Re), i = .int .i64 n ∧ n ≤ 3 ∧ Aside0 (Lw2 w R c gs keep m tb n F ⟨A9, g9, 0, c9, outs⟩ vr' vs' rs' rows' wl)) (fun i _ => 4 - (intOf i).toNat)
          case atStart => exact ⟨0, _, _, rs, rows, rfl, by omega, HL0⟩
          case round =>
            clear HL0
            obtain ⟨n, vr2, vs2, rs2, rows2, rfl, hn3, HL⟩ := hrel
            obtain ⟨A2, b2, c2, rfl, hA2, hrow2⟩ := HL.out.ra
            have k3 : wr.cell? ⟨tb, 3, none⟩ = some (.slice A2 rs2.length c2) := (blk_cell HL.out.lw.tr.bx 3).trans rfl
            have hof := offer_c (c := c2) hA2 hrow2 HL.out.lw.ok HL.out.lw.n8
            have HWR := Aside0.mk (show wrap64 ((n : Int) + 1) = (n : Int) + 1 by unfold wrap64; omega)
            cases ho : offerF rs2 with
            | none =>
              rw [ho] at hof
              have HOF := Aside0.mk hof
              have HO := Aside0.mk (offer_none ho)
              clear hof ho hA2 hrow2
              go_wp2_with (first
                | (go_at_call 8
                   refine HOF.out.mono ?_
                   rintro e w4 hO
                   unfold OfR at hO
                   obtain ⟨rfl, hb4⟩ := hO
                   have HB5 := Aside0.mk (hb4.trans (((Below.refl _ w4).alloc (Nat.le_refl _) (.cells #[.slice none 0 0, .int .i64 0] 38)).mono hb4.size))
                   clear hb4)
                | (go_at_call 7
                   refine (Lw2.known HH.out.1 HH.out.2.1 HH.out.2.2.1 (HL.out.below HB5.out)).mono ?_
                   rintro e w6 ⟨A6, g6, c6, outs6, rfl, hA6, hr6, hk6, hb6⟩
                   have HSM := Aside0.mk (Lw2.same (c2 := c6) (HL.out.below HB5.out) hb6 rfl HNO.out hA6 hr6 hk6)
                   have HB6 := Aside0.mk (HB5.out.trans (hb6.mono HB5.out.size))
                   unfold Re.v at HSM
                   clear hA6 hr6 hk6 hb6)
                | (go_at_call 10
                   refine HSM.out.mono ?_
                   rintro e w7 ⟨rfl, hb7⟩
                   have HB7 := Aside0.mk (HB6.out.trans (hb7.mono HB6.out.size))
                   clear hb7)
                | go_step3 | fail)
              have HL7 := Aside0.mk (HL.out.below HB7.out)
              clear k3 HWR
              go_loopw [18] (fun i wl => ∃ k : Nat, i = .int .i64 k ∧ k ≤ rs2.length ∧ Aside0 (Below w7.heap.size w7 wl)) (fun i _ => rs2.length - (intOf i).toNat)
              case atStart => exact ⟨0, rfl, by omega, ⟨Below.refl _ _⟩⟩
              case round =>
                obtain ⟨k, rfl, hk, HBL⟩ := hrel
                have hLw := (HL7.out.below HBL.out).lw
                have HLW := Aside0.mk hLw
                have k3 : wr.cell? ⟨tb, 3, none⟩ = some (.slice A2 rs2.length c2) := (blk_cell hLw.tr.bx 3).trans rfl
                by_cases hlt : k < rs2.length
                · obtain rfl : k = 0 := by have := HO.out.1; omega
                  have e1 : decide (0 < rs2.length) = true := decide_eq_true hlt
                  have e2 : decide ((0 : Int) < (rs2.length : Int)) = true := decide_eq_true (by omega)
                  obtain ⟨A5, b5, c5, he5, hA5, hrow5⟩ := (HL7.out.below HBL.out).ra
                  obtain rfl : A2 = some ⟨b5, 0, none⟩ := by
                    have h1 := hA5 (by intro e; rw [e] at hlt; simp at hlt)
                    injection he5 with h2 _ _
                    rw [h2, h1]
                  obtain ⟨x0, _, _, _⟩ := hrow5.cells hlt
                  rw [Nat.zero_mul] at x0
                  have hgx := hLw.hg _ (List.getElem_mem hlt)
                  have hsx := HO.out.2 _ (List.getElem_mem hlt)
                  obtain ⟨hfl, hra⟩ := rowAt_get hgx.f1 hgx.fl
                  obtain ⟨g3, cv3, rfl, hc3, _⟩ := own_re hLw.tr.own hfl
                  rw [← hra] at hc3
                  have hst : ∀ W, Below wr.heap.size wr W → Calls Try.prog 11 #[rulV R gs.length c keep, .int .i64 m, (rowAt rows2 rs2[0]).v] W fun e w' => e = .returned (.tuple #[.bool false, .int .i64 0]) ∧ Below wr.heap.size wr w' := fun W hW =>
                    (lw_stale HH.out.1 HH.out.2.1 HH.out.2.2.1 (HLW.out.below hW) (List.getElem_mem hlt) hsx).mono fun e w' ⟨h1, h2⟩ => ⟨h1, hW.trans (h2.mono hW.size)⟩
                  unfold rulV Re.v at hst
                  unfold Re.v at hc3
                  have hz1 := hgx.f1
                  have hz2 := hgx.fl
                  have z0 : wr.cell? ⟨w.heap.size, 0, none⟩ = some (.slice R gs.length c) := (blk_cell hLw.bx 0).trans rfl
                  have z1 : wr.cell? ⟨w.heap.size, 1, none⟩ = some (.int .i64 keep) := (blk_cell hLw.bx 1).trans rfl
                  have z4 : wr.cell? ⟨tb, 4, none⟩ = some (.slice (some ⟨g3, 0, none⟩) rows2.length cv3) := (blk_cell hLw.tr.bx 4).trans rfl
                  generalize rowAt rows2 rs2[0] = re at *
                  generalize rs2[0].f = z at *
                  obtain ⟨rA, rb', ro', rc, res⟩ := re
                  simp only at hst hc3
                  generalize res.length = rl at *
                  have HST := Aside0.mk hst
                  have hz3 : (0 : Int) ≤ z := by omega
                  have hl1 : (0 : Int) < (rs2.length : Int) := by omega
                  clear hst hgx hra hrow5 hA5 he5 hfl hLw hsx
                  have d0 : wr.drew.cell? ⟨w.heap.size, 0, none⟩ = some (.slice R gs.length c) := z0
                  have d1 : wr.drew.cell? ⟨w.heap.size, 1, none⟩ = some (.int .i64 keep) := z1
                  have d2 : wr.drew.cell? ⟨tb, 3, none⟩ = some (.slice (some ⟨b5, 0, none⟩) rs2.length c2) := k3
                  have d3 : wr.drew.cell? ⟨tb, 4, none⟩ = some (.slice (some ⟨g3, 0, none⟩) rows2.length cv3) := z4
                  have d4 : wr.drew.cell? ⟨b5, 0, none⟩ = some (.int .i64 z) := x0
                  have d5 : wr.drew.cell? ⟨g3, z.toNat, none⟩ = some (.slice rA rl rc) := hc3
                  go_wp2_with fail
                  go_region_held3 (fun w' => w'.cell? ⟨w.heap.size, 0, none⟩ = some (.slice R gs.length c) ∧ w'.cell? ⟨w.heap.size, 1, none⟩ = some (.int .i64 keep) ∧ w'.cell? ⟨tb, 3, none⟩ = some (.slice (some ⟨b5, 0, none⟩) rs2.length c2) ∧ w'.cell? ⟨tb, 4, none⟩ = some (.slice (some ⟨g3, 0, none⟩) rows2.length cv3) ∧ w'.cell? ⟨b5, 0, none⟩ = some (.int .i64 z) ∧ w'.cell? ⟨g3, z.toNat, none⟩ = some (.slice rA rl rc)) (first | exact ⟨by assumption, by assumption, by assumption, by assumption, by assumption, by assumption⟩ | (trace_state; fail)) (first | (go_at_call 11; refine (HST.out _ (by (repeat' (first | with_reducible exact Below.refl _ _ | with_reducible assumption | with_reducible apply bdrew | with_reducible apply bdrewN | with_reducible apply balloc | with_reducible refine bset ?_ (Nat.le_refl _))))).mono ?_; rintro e w8 ⟨rfl, hb8⟩; have y0 := cell_below hb8 z0; have y1 := cell_below hb8 z1; have y2 := cell_below hb8 k3; have y3 := cell_below hb8 z4; have y4 := cell_below hb8 x0; have y5 := cell_below hb8 hc3))
                  all_goals
                    go_wp2_with fail
                    refine ⟨⟨1, by first | rfl | go_num, by omega, ⟨HBL.out.trans (hb8.mono HBL.out.size)⟩⟩, by simp only [intOf]; omega⟩
                · have hkl : k = rs2.length := by omega
                  have e1 : decide (k < rs2.length) = false := decide_eq_false hlt
                  go_wp2_with (first
                    | (go_at_call 5; refine (alive_c _).mono ?_; rintro e w9 ⟨rfl, hb9⟩; have HB9 := Aside0.mk hb9; clear hb9)
                    | go_step3 | fail)
                  go_ret
                  exact ⟨rfl, HLW.out.tr.be.trans (HB9.out.mono HLW.out.tr.be.size)⟩
            | some p =>
              obtain ⟨zs, lv⟩ := p
              obtain ⟨rfl, hlv, hpos, hn2, _⟩ := stg_some HL.out.st ho
              rw [ho] at hof
              have HOF := Aside0.mk hof
              have HO := Aside0.mk (And.intro ho (And.intro hlv hpos))
              have t4 : decide (mst ≤ (n : Int)) = false := decide_eq_false (by have := HM.out; omega)
              clear hof ho hA2 hrow2 hlv hpos
              go_wp2_with (first
                | (go_at_call 8
                   refine HOF.out.mono ?_
                   rintro e w4 hO
                   unfold OfR at hO
                   obtain ⟨b4, c4, rfl, hz4, hc4, hb4⟩ := hO
                   rw [List.length_map]
                   have ha4 := (Below.refl _ w4).alloc (Nat.le_refl _) (.cells #[.slice (some ⟨b4, 0, none⟩) rs2.length c4, .int .i64 lv] 38)
                   have hL5 := HL.out.below (hb4.trans (ha4.mono hb4.size))
                   have HDO := Aside0.mk (do_c (c2 := c4) HH.out.1 HH.out.2.1 HH.out.2.2.1 hL5.lw.tr hL5.ra hL5.lw.hg hL5.lw.ok HO.out.2.2 hL5.lw.n8 hL5.lw.sm (hz4.below ha4) HO.out.2.1 hL5.kg.chk (by have := hL5.rl; omega))
                   have HL5 := Aside0.mk hL5
                   clear hz4 hc4 hb4 ha4 hL5)
                | (go_at_call 9
                   refine HDO.out.mono ?_
                   rintro e w5 ⟨r, vr5, vs5, rfl, ht5, hra5, hkv5, hk5⟩
                   have HL6 := Aside0.mk (Lw2.task HL5.out HO.out.1 ht5 hra5 hkv5 hk5)
                   clear ht5 hra5 hkv5 hk5)
                | (go_at_call 7
                   refine (Lw2.known HH.out.1 HH.out.2.1 HH.out.2.2.1 HL6.out).mono ?_
                   rintro e w6 ⟨A6, g6, c6, outs6, rfl, hA6, hr6, hk6, hb6⟩
                   have HSM := Aside0.mk (Lw2.same (c2 := c6) HL6.out hb6 rfl HNO.out hA6 hr6 hk6)
                   have HB6 := Aside0.mk hb6
                   unfold Re.v at HSM
                   clear hA6 hr6 hk6 hb6)
                | (go_at_call 10
                   refine HSM.out.mono ?_
                   rintro e w7 ⟨rfl, hb7⟩
                   have HL7 := Aside0.mk (HL6.out.below (HB6.out.trans (hb7.mono HB6.out.size)))
                   clear hb7)
                | go_step3 | fail)
              refine ⟨⟨n + 1, _, _, _, _, by first | rfl | go_num | (rw [HWR.out]; rfl), by omega, HL7⟩, by first | (simp only [intOf]; omega) | (rw [HWR.out]; simp only [intOf]; omega)⟩
      · have HCK := Aside0.mk hck
        clear hck
        rcases hx with t1 | ⟨t1, t2, t3⟩
        all_goals
          go_wp2_with (first
            | (go_at_call 7
               refine HKN.out.mono ?_
               rintro e w2 ⟨v2, outs, he, hb2, hk2⟩
               have he2 : e = .returned (.tuple #[v2, .bool false]) := he.trans (congrArg (fun b => Ending.returned (.tuple #[v2, .bool b])) (decide_eq_false HCK.out))
               clear he hk2
               subst he2
               have HB2 := Aside0.mk hb2
               clear hb2)
            | (go_at_call 5; refine (alive_c _).mono ?_; rintro e w4 ⟨rfl, hb4⟩; have HB4 := Aside0.mk hb4; clear hb4)
            | go_step3 | fail)
          go_ret
          exact ⟨rfl, (HBE.out.trans (HB2.out.mono HBE.out.size)).trans (HB4.out.mono (Nat.le_trans HBE.out.size HB2.out.size))⟩
end Go.Proofs.Ytoikaegohkolkaa.Top
