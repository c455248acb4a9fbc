/-
  Facts on memory that other walks stand on; conditions: those that each theorem states.
-/
import Derived.Test.YtoikaegohkolkaaGB
import Derived.Test.YtoikaegohkolkaaGA
import Derived.Test.YtoikaegohkolkaaEvs
import Derived.Maps.OwnIn
import Derived.Laws.OwnMore
import Derived.Deep.Slices
import Derived.Laws.Slices
import Derived.WalkMore
import Derived.Laws.ResultCell
import Derived.Deep.DeepCutAuto
import Derived.OrdersIn
import Derived.OrdersHeld
import Derived.Deep.RegionHeld3
import Derived.BigRegion
import Derived.BigQuiet
import Derived.Deep.RegionWith
import Derived.Deep.LoopGhost
namespace Go.Proofs.Ytoikaegohkolkaa.Top
set_option linter.unusedSimpArgs false
set_option linter.unusedVariables false
open Go.RowKit Go.Proofs.YtoikaegohkolkaaW.PrintWords Go.Proofs.YtoikaegohkolkaaW.PrintLast Go.Proofs.YtoikaegohkolkaaW.PrintMore Go.Proofs.Ytoikaegohkolkaa.Plain Go.Proofs.Ytoikaegohkolkaa.Fns
/-- An entry as a value. -/
def entV (A : Option Addr) (n c : Nat) (a : Ag) : Value := .agg #[.slice A n c, .int .u64 a.c, .bool a.o, .int .i64 a.hi, .int .u64 a.lo, .int .i64 a.mn, .int .i64 a.mx]
/-- An entry that is handed on: its key's place, the key, what is known. -/
structure Ent where
  A : Option Addr
  c : Nat
  k : List Int
  a : Ag
def Ent.v (x : Ent) : Value := entV x.A x.k.length x.c x.a
def EntOk (n₀ : Nat) (W : World) (x : Ent) : Prop := W.ownsRow n₀ 5 1 (.slice x.A x.k.length x.c) x.k.length (nums .u8 x.k)
theorem RdB.some {w : World} {A : Option Addr} {k : List Int} (h : RdB w A k) (h0 : 0 < k.length) : ∃ a, A = some a := by
  obtain ⟨ad, hA, _⟩ := Kd.at_int h 0 (by omega) (by omega)
  exact ⟨ad, hA⟩
theorem nil_own (w : World) (B : Nat) : w.ownsRow B 5 1 (.slice none 0 0) ([] : List Int).length (nums .u8 []) := World.ownsRow_nil _ _ _ _
theorem own_rdb {w : World} {base : Nat} {v : Value} {k : List Int} (h : w.ownsRow base 5 1 v k.length (nums .u8 k)) : ∃ A c, v = .slice A k.length c ∧ RdB w A k ∧ k.length ≤ c := by
  have hR : (Kd.int .u8).R 5 w base (fun _ => True) v k := Kd.R_of_own h (fun _ _ => trivial)
  obtain ⟨A, c, rfl, hl, hc⟩ := Kd.R_reads hR
  exact ⟨A, c, rfl, hc, hl⟩
theorem info7 : (Try.prog.info? 56).map (fun i => (i.zero, i.size, i.bytes)) = some (some (.agg #[.slice none 0 0, .int .u64 0, .bool false, .int .i64 0, .int .u64 0, .int .i64 0, .int .i64 0]), 7, 72) := by kernel_rfl
def Ent.cells (x : Ent) : List Value := [.slice x.A x.k.length x.c, .int .u64 x.a.c, .bool x.a.o, .int .i64 x.a.hi, .int .u64 x.a.lo, .int .i64 x.a.mn, .int .i64 x.a.mx]
theorem own_below {w w1 : World} {base : Nat} {e : TypeId} {size n : Nat} {v : Value} {xs : List Value} (h : w.ownsRow base e size v n xs) (hb : Below w.heap.size w w1) : w1.ownsRow base e size v n xs := own_move h fun k hk => by
  obtain ⟨cs, hc⟩ := own_typed h k hk
  exact hb.block k (blk_lt hc)
theorem cells_new (W : World) (x : Ent) : ∀ j u, x.cells[j]? = some u → (W.alloc (.cells #[.slice x.A x.k.length x.c, .int .u64 x.a.c, .bool x.a.o, .int .i64 x.a.hi, .int .u64 x.a.lo, .int .i64 x.a.mn, .int .i64 x.a.mx] 56)).cell? ((⟨W.heap.size, 0, none⟩ : Addr).add j) = some u := fun j u hj => by
  have hb : (W.alloc (.cells #[.slice x.A x.k.length x.c, .int .u64 x.a.c, .bool x.a.o, .int .i64 x.a.hi, .int .u64 x.a.lo, .int .i64 x.a.mn, .int .i64 x.a.mx] 56)).heap[W.heap.size]? = some (.cells x.cells.toArray 56 (0, 0)) := al_new rfl
  have := (blk_cell hb j).trans (by simpa using hj)
  have ea : ((⟨W.heap.size, 0, none⟩ : Addr).add j) = ⟨W.heap.size, j, none⟩ := by
    by_cases h : j = 0
    · subst h
      rfl
    · simp [Addr.add, h]
  rw [ea]
  exact this
theorem cells_one (x : Ent) : ∀ u ∈ x.cells, u.oneCell' = true := fun u hu => by
  simp only [Ent.cells, List.mem_cons, List.not_mem_nil, or_false] at hu
  rcases hu with rfl | rfl | rfl | rfl | rfl | rfl | rfl <;> rfl
theorem own_some {w : World} {base : Nat} {e : TypeId} {size n : Nat} {v : Value} {xs : List Value} (h : w.ownsRow base e size v (n + 1) xs) (h0 : 0 < n + 1) : ∃ g cap cur, v = .slice (some ⟨g, 0, none⟩) (n + 1) cap ∧ base ≤ g ∧ w.heap[g]? = some (.cells cur e (0, 0)) ∧ n + 1 ≤ cap ∧ cap ≤ maxLen ∧ cur.size = cap * size ∧ cur.toList.take ((n + 1) * size) = xs := by
  rcases h.2 with ⟨_, h⟩ | h
  · omega
  · exact h
theorem cell_of_box {w : World} {b : Nat} {t : TypeId} {v : Value} (h : w.heap[b]? = some (.cells #[v] t (0, 0))) : w.cell? ⟨b, 0, none⟩ = some v ∧ w.frozen? ⟨b, 0, none⟩ = false := ⟨(blk_cell h 0).trans rfl, blk_frozen h 0⟩
theorem flat_get : ∀ (xs : List Ent) (i m : Nat) (hi : i < xs.length), m < 7 → (xs.flatMap Ent.cells)[i * 7 + m]? = xs[i].cells[m]?
  | x :: xs, 0, m, _, hm => by
    have hl : x.cells.length = 7 := rfl
    rw [List.flatMap_cons, Nat.zero_mul, Nat.zero_add, List.getElem?_append_left (by omega)]
    rfl
  | x :: xs, i + 1, m, hi, hm => by
    have hl : x.cells.length = 7 := rfl
    have hi' : i < xs.length := by simpa using hi
    rw [List.flatMap_cons, List.getElem?_append_right (by omega), hl, show (i + 1) * 7 + m - 7 = i * 7 + m by omega, flat_get xs i m hi' hm]
    rfl
/-- A row of entries: its place. -/
theorem row_slice {W : World} {n₀ e size n : Nat} {v : Value} {xs : List Value} (h : W.ownsRow n₀ e size v n xs) : ∃ A c, v = .slice A n c ∧ ∀ i, i < xs.length → ∃ g, A = some ⟨g, 0, none⟩ ∧ g < W.heap.size ∧ W.cell? ⟨g, i, none⟩ = xs[i]? := by
  have h0 := h
  rcases h.2 with ⟨rfl, hn⟩ | ⟨g, cap, cur, rfl, hb, hg, r⟩
  · obtain rfl : n = 0 := by simpa using hn
    have : xs = [] := List.eq_nil_of_length_eq_zero (by have := h.1; omega)
    subst this
    exact ⟨none, 0, rfl, fun i hi => by simp at hi⟩
  · refine ⟨_, _, rfl, fun i hi => ⟨g, rfl, blk_lt hg, ?_⟩⟩
    obtain ⟨u, hu⟩ : ∃ u, xs[i]? = some u := ⟨_, List.getElem?_eq_getElem hi⟩
    have := h0.cells (g := g) rfl i u hu
    rw [hu, ← this]
    rcases Nat.eq_zero_or_pos i with rfl | hp
    · rfl
    · simp [Addr.add, Nat.pos_iff_ne_zero.1 hp]
theorem own_read {w : World} {base c : Nat} {A : Option Addr} {k : List Int} (h : w.ownsRow base 5 1 (.slice A k.length c) k.length (nums .u8 k)) : RdB w A k := by
  obtain ⟨A', c', he, hr, _⟩ := own_rdb h
  cases he
  exact hr
/-- A row of entries: one entry's cells. -/
theorem row_at {W : World} {n₀ : Nat} {xs : List Ent} {A : Option Addr} {n c : Nat} (h : W.ownsRow n₀ 56 7 (.slice A n c) xs.length (xs.flatMap Ent.cells)) {j : Nat} (hj : j < xs.length) :
    ∃ b, A = some ⟨b, 0, none⟩ ∧ b < W.heap.size ∧ W.cell? ⟨b, j * 7, none⟩ = some (.slice xs[j].A xs[j].k.length xs[j].c) ∧ W.cell? ⟨b, j * 7 + 1, none⟩ = some (.int .u64 xs[j].a.c) ∧ W.cell? ⟨b, j * 7 + 2, none⟩ = some (.bool xs[j].a.o) ∧
      W.cell? ⟨b, j * 7 + 3, none⟩ = some (.int .i64 xs[j].a.hi) ∧ W.cell? ⟨b, j * 7 + 4, none⟩ = some (.int .u64 xs[j].a.lo) ∧ W.cell? ⟨b, j * 7 + 5, none⟩ = some (.int .i64 xs[j].a.mn) ∧ W.cell? ⟨b, j * 7 + 6, none⟩ = some (.int .i64 xs[j].a.mx) := by
  obtain ⟨A', c', hA, hc⟩ := row_slice h
  cases hA
  have hl : (xs.flatMap Ent.cells).length = xs.length * 7 := h.1
  have e : ∀ m, m < 7 → ∃ b, A = some ⟨b, 0, none⟩ ∧ b < W.heap.size ∧ W.cell? ⟨b, j * 7 + m, none⟩ = xs[j].cells[m]? := fun m hm => by
    obtain ⟨b, h1, h2, h3⟩ := hc (j * 7 + m) (by omega)
    rw [flat_get xs j m hj hm] at h3
    exact ⟨b, h1, h2, h3⟩
  obtain ⟨b, hb, hlt, h0⟩ := e 0 (by omega)
  have e' : ∀ m, m < 7 → W.cell? ⟨b, j * 7 + m, none⟩ = xs[j].cells[m]? := fun m hm => by
    obtain ⟨b', h1, _, h2⟩ := e m hm
    rw [hb] at h1
    cases h1
    exact h2
  exact ⟨b, hb, hlt, h0, e' 1 (by omega), e' 2 (by omega), e' 3 (by omega), e' 4 (by omega), e' 5 (by omega), e' 6 (by omega)⟩
/-- What is nothing. -/
def noA : Ag := ⟨0, false, 0, 0, 0, 0⟩
theorem info_u8 : (Try.prog.info? 5).map (fun i => (i.zero, i.size, i.bytes)) = some (some (.int .u8 0), 1, 1) := by kernel_rfl
theorem rd_news {w : World} {a : Addr} {k : List Int} (h : RdB w (some a) k) : ∀ j u, (nums .u8 k)[j]? = some u → w.cell? (a.add j) = some u := fun j u hu => by
  have hj : j < k.length := by
    have := (List.getElem?_eq_some_iff.1 hu).1
    simpa [nums] using this
  obtain ⟨ad, hA, hc⟩ := Kd.at_int h (j : Int) (by omega) (by omega)
  cases hA
  rw [Int.toNat_natCast] at hc
  rw [hc, ← hu]
  unfold rd nums
  rw [Int.toNat_natCast, List.getElem?_map, List.getElem?_eq_getElem hj, List.getD_eq_getElem?_getD, List.getElem?_eq_getElem hj]
  rfl
theorem run_append_bytes {w : World} {B : Nat} {v : Value} {l k : List Int} {A : Option Addr} {c : Nat} (ty : TypeId) (hown : w.ownsRow B 5 1 v l.length (nums .u8 l)) (hk : RdB w A k) (hc0 : A = none → c = 0) (hl : l.length + k.length < 1000000000) (hB : B ≤ w.heap.size) :
    ∃ v' w', (Builtin.append_ #[49, 49] ty #[v, .slice A k.length c]).run Try.prog w = .ok v' w' ∧ w'.ownsRow B 5 1 v' (l ++ k).length (nums .u8 (l ++ k)) ∧ w.grownBy w' v.ownBlock ∧ (v'.ownBlock = v.ownBlock ∨ v'.ownBlock = some w.heap.size) := by
  cases A with
  | none =>
    have hk0 : k = [] := by
      rcases Nat.eq_zero_or_pos k.length with h | h
      · exact List.eq_nil_of_length_eq_zero h
      · obtain ⟨a, e⟩ := hk.some h
        cases e
    subst hk0
    rw [hc0 rfl]
    obtain ⟨i0, hi, hzz⟩ := Option.map_eq_some_iff.1 info_u8
    exact ⟨v, w, run_append_owned_none (P := Try.prog) w B 49 ty 5 i0 1 Try.underlying49 hi v l.length _ hown, by rw [List.append_nil]; exact hown, ⟨rfl, rfl, rfl, Nat.le_refl _, fun _ _ _ => rfl⟩, .inl rfl⟩
  | some a =>
    obtain ⟨i0, hi, hzz⟩ := Option.map_eq_some_iff.1 info_u8
    simp only [Prod.mk.injEq] at hzz
    obtain ⟨hz0, hz1, hz2⟩ := hzz
    obtain ⟨v', w', h1, h2, h3, _, h5⟩ := run_append_own_at (P := Try.prog) w B 49 ty 5 i0 (.int .u8 0) 1 1 Try.underlying49 hi hz0 hz1 hz2 rfl (by decide) v l.length (nums .u8 l) hown a k.length c (nums .u8 k) (by simp [nums]) (rd_news hk)
      (fun u hu => by (simp [nums] at hu; obtain ⟨x, _, rfl⟩ := hu; rfl)) (by simp only [maxLen]; omega) (by omega) hB
    exact ⟨v', w', h1, by rw [List.length_append, nums_append]; exact h2, h3, h5⟩
theorem wpList_append_bytes {ops : Array Oper} {rest : List Oper} {o : Oper} {a : Act} {w : World} {Q : Exit → Act → World → Prop} (hgd : o.guard = none) (s x : Operand)
    (ho : o.op = .call { callee := .builtin .append, args := #[s, x], argTypes := #[49, 49] }) {B : Nat} {v : Value} {l k : List Int} {A : Option Addr} {c : Nat} (hs : a.eval s = v) (hx : a.eval x = .slice A k.length c)
    (hown : w.ownsRow B 5 1 v l.length (nums .u8 l)) (hk : RdB w A k) (hc0 : A = none → c = 0) (hl : l.length + k.length < 1000000000) (hB : B ≤ w.heap.size)
    (h : ∀ v' w', w'.ownsRow B 5 1 v' (l ++ k).length (nums .u8 (l ++ k)) → w.grownBy w' v.ownBlock → (v'.ownBlock = v.ownBlock ∨ v'.ownBlock = some w.heap.size) → wpList Try.prog ops Q rest (a.put o.dst v') w') : wpList Try.prog ops Q (o :: rest) a w := by
  refine wpList_plain hgd fun K hK => ?_
  obtain ⟨v', w', hr, h2, h3, h4⟩ := run_append_bytes o.type hown hk hc0 hl hB
  unfold Oper.wp execOp
  simp only [ho, resolve, invoke, builtin, Sem.run_bind, Sem.run_pure, Result.andThen_ok, List.map_toArray, List.map_cons, List.map_nil, hs, hx, hr]
  exact hK _ _ (h v' w' h2 h3 h4)
/-- The same at a step of a region that draws. -/
theorem step_append_bytes {ops : Array Oper} {o : Oper} {a : Act} {w : World} {K : Act → World → Prop} {Q : Exit → Act → World → Prop} {E : Prop} (hgd : o.guard = none) (s x : Operand)
    (ho : o.op = .call { callee := .builtin .append, args := #[s, x], argTypes := #[49, 49] }) {B : Nat} {v : Value} {l k : List Int} {A : Option Addr} {c : Nat} (hs : a.eval s = v) (hx : a.eval x = .slice A k.length c)
    (hown : w.ownsRow B 5 1 v l.length (nums .u8 l)) (hk : RdB w A k) (hc0 : A = none → c = 0) (hl : l.length + k.length < 1000000000) (hB : B ≤ w.heap.size)
    (h : ∀ v' w', w'.ownsRow B 5 1 v' (l ++ k).length (nums .u8 (l ++ k)) → w.grownBy w' v.ownBlock → (v'.ownBlock = v.ownBlock ∨ v'.ownBlock = some w.heap.size) → K (a.put o.dst v') w') : if Region.wanted o (yielded ops a.tmps) = true then Oper.wp Try.prog o a w K Q else E := by
  have hw : Region.wanted o (yielded ops a.tmps) = true := by simp [Region.wanted, hgd]
  rw [if_pos hw]
  obtain ⟨v', w', hr, h2, h3, h4⟩ := run_append_bytes o.type hown hk hc0 hl hB
  unfold Oper.wp execOp
  simp only [ho, resolve, invoke, builtin, Sem.run_bind, Sem.run_pure, Result.andThen_ok, List.map_toArray, List.map_cons, List.map_nil, hs, hx, hr]
  exact h v' w' h2 h3 h4
/-- What an own row is, as a value that is read. -/
theorem own_form {w : World} {B : Nat} {v : Value} {l : List Int} (h : w.ownsRow B 5 1 v l.length (nums .u8 l)) : ∃ A c, v = .slice A l.length c ∧ RdB w A l ∧ l.length ≤ c ∧ (A = none → c = 0) ∧ ∀ a, A = some a → v.ownBlock = some a.block := by
  obtain ⟨A, c, rfl, hr, hl⟩ := own_rdb h
  refine ⟨A, c, rfl, hr, hl, fun e => ?_, fun a e => ?_⟩
  · subst e
    rcases h.2 with ⟨h1, _⟩ | ⟨g, cap, cur, h1, _⟩
    · simp at h1
      exact h1.2
    · simp at h1
  · subst e
    rcases h.2 with ⟨h1, _⟩ | ⟨g, cap, cur, h1, _⟩
    · simp at h1
    · simp at h1
      rw [h1.1]
      rfl
/-- A readable row stays where the block that was written is another. -/
theorem rdb_grown {w w' : World} {A : Option Addr} {k : List Int} {row : Option Nat} (h : RdB w A k) (hg : w.grownBy w' row) (hne : ∀ a, A = some a → some a.block ≠ row) : RdB w' A k :=
  ⟨h.1, h.2.1, fun hn => by
    obtain ⟨ad, e, hc⟩ := h.2.2 hn
    refine ⟨ad, e, fun j p hj => ?_⟩
    obtain ⟨c, hs, hr, hcell⟩ := hc j p hj
    refine ⟨c, hs, hr, fun i u hu => hg.cell (hcell i u hu) ?_⟩
    have : (ad.add (j * (Kd.int .u8).sz + i)).block = ad.block := by unfold Addr.add; split <;> rfl
    rw [this]
    exact hne ad e⟩
theorem rdb_lt {w : World} {a : Addr} {k : List Int} (h : RdB w (some a) k) (h0 : 0 < k.length) : a.block < w.heap.size := by
  obtain ⟨ad, hA, hc⟩ := Kd.at_int h 0 (by omega) (by omega)
  cases hA
  have := World.block_lt_of_cell? w _ hc
  simpa [Addr.add] using this
/-- A row from a place on. -/
theorem rdb_drop {w : World} {a : Addr} {k : List Int} (h : RdB w (some a) k) (i : Nat) : RdB w (some (a.add i)) (k.drop i) :=
  ⟨rfl, by have := h.2.1; rw [List.length_drop]; omega, fun hn => ⟨_, rfl, fun j p hj => by
    rw [List.length_drop] at hn
    obtain ⟨ad, e, hc⟩ := h.2.2 (by omega)
    cases e
    rw [List.getElem?_drop] at hj
    obtain ⟨c, hs, hr, hcell⟩ := hc (i + j) p hj
    refine ⟨c, hs, hr, fun q u hu => ?_⟩
    have hsz : (Kd.int IntKind.u8).sz = 1 := rfl
    have := hcell q u hu
    rw [hsz] at this ⊢
    rw [Go.Deep.add_add]
    rw [← this]
    congr 2
    omega⟩⟩
/-- A row's front. -/
theorem rdb_take {w : World} {A : Option Addr} {k : List Int} (h : RdB w A k) (n : Nat) : RdB w A (k.take n) :=
  ⟨rfl, by have := h.2.1; rw [List.length_take]; omega, fun hn => by
    rw [List.length_take] at hn
    obtain ⟨ad, e, hc⟩ := h.2.2 (by omega)
    refine ⟨ad, e, fun j p hj => ?_⟩
    have hj' := (List.getElem?_eq_some_iff.1 hj).1
    rw [List.length_take] at hj'
    rw [List.getElem?_take_of_lt (by omega)] at hj
    exact hc j p hj⟩
theorem rdb_nil_at (W : World) (A : Option Addr) (h : A ≠ none) : RdB W A [] := ⟨rfl, by simp, fun h => absurd h (Nat.lt_irrefl 0)⟩
theorem drawn_cell {w w' : World} (h : Drawn0 w w') (p : Addr) : w'.cell? p = w.cell? p := by obtain ⟨n, rfl⟩ := h; rfl
theorem drawn_frozen {w w' : World} (h : Drawn0 w w') (p : Addr) : w'.frozen? p = w.frozen? p := by obtain ⟨n, rfl⟩ := h; rfl
theorem bdrew {n : Nat} {w1 W : World} (h : Below n w1 W) : Below n w1 W.drew := ⟨h.os, h.tape, h.output, h.size, h.block⟩
theorem bdrewN {n k : Nat} {w1 W : World} (h : Below n w1 W) : Below n w1 (W.drewN k) := pw_below_drewN h k
theorem balloc {w1 W : World} {o : Obj} (h : Below w1.heap.size w1 W) : Below w1.heap.size w1 (W.alloc o) := h.alloc h.size o
theorem bset {n b i : Nat} {w1 W : World} {v : Value} (h : Below n w1 W) (hb : n ≤ b) : Below n w1 (W.setCell ⟨b, i, none⟩ v) := h.setCell (p := ⟨b, i, none⟩) hb v
theorem end_at {K : Act → World → Prop} {Q : Exit → Act → World → Prop} {e : Exit} {a : Act} {W : World} (F : World → Prop) (h : F W) (k : ∀ W, F W → Exit.then K Q e a W) : Exit.then K Q e a W := k W h
theorem cell_below {W W1 : World} {a : Addr} {u : Value} (hb : Below W.heap.size W W1) (h : W.cell? a = some u) : W1.cell? a = some u := by
  have := World.block_lt_of_cell? W a h
  rw [← h]
  unfold World.cell?
  rw [hb.block _ this]
theorem box_grown {W W3 : World} {base b n sz : Nat} {cs : Array Value} {t e : TypeId} {v : Value} {xs : List Value} (h : W.heap[b]? = some (.cells cs t (0, 0))) (hown : W.ownsRow base e sz v n xs) (hg : W.grownBy W3 v.ownBlock) (hne : t ≠ e := by decide) : W3.heap[b]? = some (.cells cs t (0, 0)) := by
  refine (hg.block b (blk_lt h) (fun hb => ?_)).trans h
  obtain ⟨cs, hc⟩ := own_typed hown b hb.symm
  rw [h] at hc
  simp only [Option.some.injEq, Obj.cells.injEq] at hc
  exact hne hc.2.1
theorem box2 {W : World} {e : Nat} {u v : Value} {t : TypeId} (h : W.heap[e]? = some (.cells #[u, v] t (0, 0))) : W.cell? ⟨e, 0, none⟩ = some u ∧ W.cell? ⟨e, 1, none⟩ = some v := ⟨(blk_cell h 0).trans rfl, (blk_cell h 1).trans rfl⟩
theorem slice_eqN (w : World) : (binOp .eql 49 (.slice none 0 0) (.slice none 0 0)).run Try.prog w = .ok (.bool true) w := run_eql_slice_nil w _ _ none 0 0 Try.underlying49
theorem clone_n {w : World} : Calls Try.prog 56 #[.slice none 0 0] w fun e w' => e = .returned (.slice none 0 0) ∧ w' = w := by
  have hq := slice_eqN w
  go_enter Try.func56, Try.ntmps56
  go_wp2
  go_ret
  exact ⟨rfl, rfl⟩
theorem clone_o {w : World} {A : Option Addr} {c : Nat} {k : List Int} (hk : RdB w A k) (h0 : A = none → c = 0) (h1 : k.length ≤ 100000000) :
    Calls Try.prog 56 #[.slice A k.length c] w fun e w' => ∃ v, e = .returned v ∧ w'.ownsRow w.heap.size 5 1 v k.length (nums .u8 k) ∧ Below w.heap.size w w' := by
  cases A with
  | some a => exact clone_a hk h1
  | none =>
    have hk0 : k = [] := by
      rcases Nat.eq_zero_or_pos k.length with h | h
      · exact List.eq_nil_of_length_eq_zero h
      · obtain ⟨a, e⟩ := hk.some h
        cases e
    subst hk0
    rw [h0 rfl]
    exact clone_n.mono fun e w' ⟨he, hw⟩ => ⟨_, he, by rw [hw]; exact nil_own _ _, by rw [hw]; exact Below.refl _ _⟩
theorem results3_cell {fn : Func} {p u q : Tmp} {ty : TypeId} (h : fn.results = #[.cell p ty, .tmp u, .tmp q]) (tmps : Array Value) (P : Program) (w : World) :
    (results fn tmps).run P w =
      ((asAddr (tmps.getD p undef)).run P w).andThen fun a w₁ => ((loadVar ty a).run P w₁).andThen fun v w₂ => .ok (.tuple #[v, tmps.getD u undef, tmps.getD q undef]) w₂ := by
  simp only [results, h]
  simp [Sem.run_bind, Result.andThen]
theorem results3_row {P : Program} {fn : Func} {p u q : Tmp} {ty : TypeId} (h : fn.results = #[.cell p ty, .tmp u, .tmp q]) (tmps : Array Value) (w : World) (g : Nat) (t : TypeId) (cs : Array Value) (fr : Nat × Nat) (d : TypeDesc)
    (hp : tmps.getD p undef = .pointer (some ⟨g, 0, none⟩)) (hg : w.heap[g]? = some (.cells cs t fr))
    (hu : P.underlying ty = some d) (hd : (match d with | .struct _ | .array _ _ => true | _ => false) = true) (hi : (P.info? ty).map (·.size) = some cs.size) :
    (results fn tmps).run P w = .ok (.tuple #[.agg cs, tmps.getD u undef, tmps.getD q undef]) w := by
  rw [results3_cell h, hp]
  simp [asAddr, run_loadVar_row w g t ty cs fr d hg hu hd hi, Result.andThen]
theorem own_b {w : World} {B : Nat} {v : Value} {l : List Int} (h : w.ownsRow B 5 1 v l.length (nums .u8 l)) (h1 : 1 ≤ l.length) : ∃ A c, v = .slice (some A) l.length c ∧ RdB w (some A) l ∧ l.length ≤ c := by
  obtain ⟨A, c, rfl, hr, hc, _, _⟩ := own_form h
  obtain ⟨a, rfl⟩ := hr.some (by omega)
  exact ⟨a, c, rfl, hr, hc⟩
theorem own_set {W : World} {base b i n sz : Nat} {cs : Array Value} {t e : TypeId} {u v : Value} {xs : List Value} (hb : W.heap[b]? = some (.cells cs t (0, 0))) (ho : W.ownsRow base e sz v n xs) (hne : t ≠ e := by decide) : (W.setCell ⟨b, i, none⟩ u).ownsRow base e sz v n xs :=
  own_move ho fun k hk => Below.heap_setCell _ _ _ _ fun e' => by
    obtain ⟨cs', hc⟩ := own_typed ho k hk
    subst e'
    rw [hb] at hc
    simp only [Option.some.injEq, Obj.cells.injEq] at hc
    exact hne hc.2.1
theorem noGoto_ret {Q : Exit → Act → World → Prop} {a : Act} {w : World} (h : Q .ret a w) : Exit.noGoto Q .ret a w := h
theorem wp_world {P : Program} {c : Code} {Q : Exit → Act → World → Prop} {a : Act} {W : World} (F : World → Prop) (h : F W) (k : ∀ W, F W → Code.wp P c Q a W) : Code.wp P c Q a W := k W h
/-- A result in memory, and one that is not. -/
theorem results_row_tmp {P : Program} {fn : Func} {p u : Tmp} {ty : TypeId} (h : fn.results = #[.cell p ty, .tmp u]) (tmps : Array Value) (w : World) (g : Nat) (t : TypeId) (cs : Array Value) (fr : Nat × Nat) (d : TypeDesc)
    (hp : tmps.getD p undef = .pointer (some ⟨g, 0, none⟩)) (hg : w.heap[g]? = some (.cells cs t fr))
    (hu : P.underlying ty = some d) (hd : (match d with | .struct _ | .array _ _ => true | _ => false) = true) (hi : (P.info? ty).map (·.size) = some cs.size) :
    (results fn tmps).run P w = .ok (.tuple #[.agg cs, tmps.getD u undef]) w := by
  rw [results_cell_tmp h, hp]
  simp [asAddr, run_loadVar_row w g t ty cs fr d hg hu hd hi, Result.andThen]
/-- Two results in variables, each of one cell. -/
theorem results_two {P : Program} {fn : Func} {p u : Tmp} {ty tu : TypeId} (h : fn.results = #[.cell p ty, .cell u tu]) (tmps : Array Value) (w : World) (a b : Addr) (va vb : Value)
    (hp : tmps[p]?.getD undef = .pointer (some a)) (hu : tmps[u]?.getD undef = .pointer (some b)) (ha : w.cell? a = some va) (hb : w.cell? b = some vb)
    (hat : (loadVar ty a).run P w = (load a).run P w) (hbt : (loadVar tu b).run P w = (load b).run P w) : (results fn tmps).run P w = .ok (.tuple #[va, vb]) w := by
  have e1 : (load a).run P w = .ok va w := by rw [run_load, ha]
  have e2 : (load b).run P w = .ok vb w := by rw [run_load, hb]
  simp [results, h, hp, hu, asAddr, Sem.run_bind, Result.andThen, hat, hbt, e1, e2]
/-- An entry that can be read. -/
structure Ent.rd (W : World) (x : Ent) : Prop where
  k : RdB W x.A x.k
  kc : x.k.length ≤ x.c
  some_ : ∃ a, x.A = some a
theorem Ent.rd.below {W W1 : World} {x : Ent} (h : x.rd W) (hb : Below W.heap.size W W1) : x.rd W1 := ⟨h.k.below hb, h.kc, h.some_⟩
def Ent.ka (x : Ent) : List Int × Ag := (x.k, x.a)
/-- A row of entries that can be read, from cell o of block b on. -/
structure ERow (W : World) (b o : Nat) (es : List Ent) : Prop where
  at_ : ∀ j (h : j < es.length), ∀ m u, es[j].cells[m]? = some u → W.cell? ⟨b, o + j * 7 + m, none⟩ = some u
  rd : ∀ x ∈ es, x.rd W
theorem ERow.below {W W1 : World} {b o : Nat} {es : List Ent} (h : ERow W b o es) (hb : Below W.heap.size W W1) : ERow W1 b o es :=
  ⟨fun j hj m u hu => cell_below hb (h.at_ j hj m u hu), fun x hx => (h.rd x hx).below hb⟩
theorem ERow.cells {W : World} {b o : Nat} {es : List Ent} (h : ERow W b o es) {j : Nat} (hj : j < es.length) :
    W.cell? ⟨b, o + j * 7, none⟩ = some (.slice es[j].A es[j].k.length es[j].c) ∧ W.cell? ⟨b, o + j * 7 + 1, none⟩ = some (.int .u64 es[j].a.c) ∧ W.cell? ⟨b, o + j * 7 + 2, none⟩ = some (.bool es[j].a.o) ∧
      W.cell? ⟨b, o + j * 7 + 3, none⟩ = some (.int .i64 es[j].a.hi) ∧ W.cell? ⟨b, o + j * 7 + 4, none⟩ = some (.int .u64 es[j].a.lo) ∧ W.cell? ⟨b, o + j * 7 + 5, none⟩ = some (.int .i64 es[j].a.mn) ∧ W.cell? ⟨b, o + j * 7 + 6, none⟩ = some (.int .i64 es[j].a.mx) :=
  ⟨h.at_ j hj 0 _ rfl, h.at_ j hj 1 _ rfl, h.at_ j hj 2 _ rfl, h.at_ j hj 3 _ rfl, h.at_ j hj 4 _ rfl, h.at_ j hj 5 _ rfl, h.at_ j hj 6 _ rfl⟩
/-- An entry whose key is an own row. -/
def EOwn (n : Nat) (W : World) (x : Ent) : Prop := EntOk n W x ∧ x.k.length ≤ x.c ∧ ∃ a, x.A = some a
theorem EOwn.below {n : Nat} {A B : World} {x : Ent} (h : EOwn n A x) (hb : Below A.heap.size A B) : EOwn n B x := ⟨own_below h.1 hb, h.2⟩
theorem EOwn.rd {n : Nat} {W : World} {x : Ent} (h : EOwn n W x) : x.rd W := ⟨own_read h.1, h.2.1, h.2.2⟩
/-- All but entries is kept. -/
def Kne (A B : World) : Prop := A.heap.size ≤ B.heap.size ∧ ∀ (k : Nat) (cs : Array Value) (e : TypeId), A.heap[k]? = some (.cells cs e (0, 0)) → e ≠ 56 → B.heap[k]? = A.heap[k]?
theorem Kne.trans {A B C : World} (h : Kne A B) (k : Kne B C) : Kne A C := ⟨Nat.le_trans h.1 k.1, fun b cs e hb he => (k.2 b cs e ((h.2 b cs e hb he).trans hb) he).trans (h.2 b cs e hb he)⟩
theorem Kne.of_below {A B : World} (h : Below A.heap.size A B) : Kne A B := ⟨h.size, fun b cs e hb _ => h.block b (blk_lt hb)⟩
theorem Kne.own {A B : World} {base n sz : Nat} {e : TypeId} {v : Value} {xs : List Value} (h : Kne A B) (he : e ≠ 56) (ho : A.ownsRow base e sz v n xs) : B.ownsRow base e sz v n xs := own_move ho fun k hk => by
  obtain ⟨cs, hc⟩ := own_typed ho k hk
  exact h.2 k cs _ hc he
theorem Kne.grow {W W3 : World} {base n sz : Nat} {v : Value} {xs : List Value} (hown : W.ownsRow base 56 sz v n xs) (hg : W.grownBy W3 v.ownBlock) : Kne W W3 :=
  ⟨hg.size, fun k cs e hk he => (box_grown hk hown hg he).trans hk.symm⟩
theorem EOwn.kne {n : Nat} {A B : World} {x : Ent} (h : EOwn n A x) (hk : Kne A B) : EOwn n B x := ⟨hk.own (by decide) h.1, h.2⟩
/-- A row of entries as it is read. -/
theorem erow_own {W : World} {base n c b : Nat} {xs : List Ent} (h : W.ownsRow base 56 7 (.slice (some ⟨b, 0, none⟩) n c) xs.length (xs.flatMap Ent.cells)) (hx : ∀ x ∈ xs, EOwn base W x) : ERow W b 0 xs := by
  obtain ⟨A, c', e, hc⟩ := row_slice h
  cases e
  have hl := h.1
  refine ⟨fun j hj m u hu => ?_, fun x hx' => (hx x hx').rd⟩
  have hm : m < 7 := by
    have := (List.getElem?_eq_some_iff.1 hu).1
    simpa [Ent.cells] using this
  obtain ⟨g', e1, _, e2⟩ := hc (j * 7 + m) (by omega)
  rw [flat_get xs j m hj hm, hu] at e2
  simp only [Option.some.injEq, Addr.mk.injEq] at e1
  rw [← e1.1] at e2
  rw [show 0 + j * 7 + m = j * 7 + m by omega]
  exact e2
theorem erow_news {W : World} {base pb n c : Nat} {zs : List Ent} (h : W.ownsRow base 56 7 (.slice (some ⟨pb, 0, none⟩) n c) zs.length (zs.flatMap Ent.cells)) : ∀ j u, (zs.flatMap Ent.cells)[j]? = some u → W.cell? ((⟨pb, 0, none⟩ : Addr).add j) = some u := fun j u hu => by
  obtain ⟨A, c', e, hc⟩ := row_slice h
  cases e
  obtain ⟨g', e1', _, e2'⟩ := hc j (List.getElem?_eq_some_iff.1 hu).1
  simp only [Option.some.injEq, Addr.mk.injEq] at e1'
  rw [← e1'.1, hu] at e2'
  have ea : ((⟨pb, 0, none⟩ : Addr).add j) = ⟨pb, j, none⟩ := by
    by_cases h : j = 0
    · subst h
      rfl
    · simp [Addr.add, h]
  rw [ea]
  exact e2'
theorem flat_one (zs : List Ent) : ∀ u ∈ zs.flatMap Ent.cells, u.oneCell' = true := fun u hu => by
  obtain ⟨x, _, hx⟩ := List.mem_flatMap.1 hu
  exact cells_one x u hx
abbrev RdE (w : World) (A : Option Addr) (l : List Lib.S56) : Prop := Kd.C Lib.k56 w A l.length l
def agOf (x : Lib.S54) : Ag := ⟨x.f0, x.f1, x.f2.f0, x.f2.f1, x.f3, x.f4⟩
theorem entry_at {w wr : World} {A : Option Addr} {l : List Lib.S56} (hA : RdE w A l) (hB : Below w.heap.size w wr) {j : Nat} (hj : j < l.length) :
    ∃ (ad : Addr) (A0 : Option Addr) (c0 : Nat), A = some ad ∧ wr.cell? (ad.add (j * 7)) = some (.slice A0 l[j].f0.length c0) ∧ wr.cell? ⟨(ad.add (j * 7)).block, (ad.add (j * 7)).off + 1, none⟩ = some (.int .u64 (agOf l[j].f1).c) ∧
      wr.cell? ⟨(ad.add (j * 7)).block, (ad.add (j * 7)).off + 2, none⟩ = some (.bool (agOf l[j].f1).o) ∧ wr.cell? ⟨(ad.add (j * 7)).block, (ad.add (j * 7)).off + 3, none⟩ = some (.int .i64 (agOf l[j].f1).hi) ∧
      wr.cell? ⟨(ad.add (j * 7)).block, (ad.add (j * 7)).off + 4, none⟩ = some (.int .u64 (agOf l[j].f1).lo) ∧ wr.cell? ⟨(ad.add (j * 7)).block, (ad.add (j * 7)).off + 5, none⟩ = some (.int .i64 (agOf l[j].f1).mn) ∧
      wr.cell? ⟨(ad.add (j * 7)).block, (ad.add (j * 7)).off + 6, none⟩ = some (.int .i64 (agOf l[j].f1).mx) ∧ l[j].f0.length ≤ c0 ∧ RdB wr A0 l[j].f0 := by
  obtain ⟨ad, A0, c0, h0, h1, h2, h3, h4, h5, h6, h7, h8, h9⟩ := Lib.at_T56 (Kd.C_below hA hB) (j : Int) (by omega) (by omega)
  have e : Lib.rd_T56 l (j : Int) = l[j] := by
    unfold Lib.rd_T56
    simp [List.getD, hj]
  rw [e] at h1 h2 h3 h4 h5 h6 h7 h8 h9
  rw [Int.toNat_natCast] at h1 h2 h3 h4 h5 h6 h7
  exact ⟨ad, A0, c0, h0, h1, h2, h3, h4, h5, h6, h7, h8, h9⟩
theorem row_er {W : World} {base : Nat} {v : Value} {xs : List Ent} (h : W.ownsRow base 56 7 v xs.length (xs.flatMap Ent.cells)) (hx : ∀ x ∈ xs, x.rd W) : ∃ R c b, v = .slice R xs.length c ∧ (xs ≠ [] → R = some ⟨b, 0, none⟩) ∧ ERow W b 0 xs ∧ xs.length ≤ c := by
  by_cases h0 : xs = []
  · subst h0
    obtain ⟨R, c, rfl, _⟩ := row_slice h
    exact ⟨R, c, 0, rfl, fun h => absurd rfl h, ⟨fun j hj => by simp at hj, hx⟩, Nat.zero_le _⟩
  · have hp := List.length_pos_iff.2 h0
    rcases h.2 with ⟨rfl, hn⟩ | ⟨g, cap, cur, rfl, hb, hg, hcap, _⟩
    · omega
    refine ⟨_, cap, g, rfl, fun _ => rfl, ?_, hcap⟩
    have hl := h.1
    refine ⟨fun j hj m u hu => ?_, hx⟩
    have hm : m < 7 := by
      have := (List.getElem?_eq_some_iff.1 hu).1
      simpa [Ent.cells] using this
    obtain ⟨A, c', e, hc⟩ := row_slice h
    cases e
    obtain ⟨g', e1, _, e2⟩ := hc (j * 7 + m) (by omega)
    rw [flat_get xs j m hj hm, hu] at e2
    simp only [Option.some.injEq, Addr.mk.injEq] at e1
    rw [← e1.1] at e2
    rw [show 0 + j * 7 + m = j * 7 + m by omega]
    exact e2
theorem ent_rd {W : World} {n : Nat} {x : Ent} (h : EntOk n W x) (hc : x.k.length ≤ x.c) (h0 : 0 < x.k.length) : x.rd W := ⟨own_read h, hc, (own_read h).some h0⟩
end Go.Proofs.Ytoikaegohkolkaa.Top
