/-
  A list of towers in memory: what it holds, and what lies behind each tower on each level; conditions: those that each theorem states.
-/
import Derived.Test.YthabkdbhjioalaaGC
import Derived.Test.YthabkdbhjioalaaGA
namespace Go.Proofs.Ythabkdbhjioalaa.Top
set_option linter.unusedSimpArgs false
set_option linter.unusedVariables false
open Go.RowKit Go.Proofs.YthabkdbhjioalaaW.PrintWords Go.Proofs.YthabkdbhjioalaaW.PrintLast Go.Proofs.YthabkdbhjioalaaW.PrintMore Go.Proofs.Ythabkdbhjioalaa.Plain
variable {fz : Bool}
/-- An entry in memory: its block, its tower's height, its key, what is known. -/
structure Nd where
  b : Nat
  h : Nat
  k : List Int
  a : Ag
def ptr (b : Nat) : Value := .pointer (some ⟨b, 0, none⟩)
/-- The next tower on level i. -/
def nxt (i : Nat) : List Nd → Value
  | [] => .pointer none
  | n :: t => if i < n.h then ptr n.b else nxt i t
/-- The last tower on level i, or L. -/
def prd (L i : Nat) : List Nd → Nat
  | [] => L
  | n :: t => prd (if i < n.h then n.b else L) i t
theorem prd_append (i : Nat) : ∀ (A B : List Nd) (L : Nat), prd L i (A ++ B) = prd (prd L i A) i B
  | [], _, _ => rfl
  | n :: t, B, L => prd_append i t B _
theorem prd_low {i : Nat} : ∀ {B : List Nd} (L : Nat), (∀ n ∈ B, n.h ≤ i) → prd L i B = L
  | [], _, _ => rfl
  | n :: t, L, h => by
    have h1 := h n (by simp)
    unfold prd
    rw [if_neg (by omega)]
    exact prd_low L (fun m hm => h m (by simp [hm]))
theorem nxt_low {i : Nat} : ∀ {C D : List Nd}, (∀ n ∈ C, n.h ≤ i) → nxt i (C ++ D) = nxt i D
  | [], _, _ => rfl
  | n :: t, D, h => by
    have h1 := h n (by simp)
    show (if i < n.h then ptr n.b else nxt i (t ++ D)) = _
    rw [if_neg (by omega)]
    exact nxt_low (fun m hm => h m (by simp [hm]))
theorem nxt_cases (i : Nat) : ∀ (B : List Nd), (nxt i B = .pointer none ∧ ∀ n ∈ B, n.h ≤ i) ∨ ∃ C n D, B = C ++ n :: D ∧ (∀ m ∈ C, m.h ≤ i) ∧ i < n.h ∧ nxt i B = ptr n.b
  | [] => .inl ⟨rfl, fun _ h => by cases h⟩
  | n :: t => by
    by_cases hn : i < n.h
    · exact .inr ⟨[], n, t, rfl, (fun _ h => by cases h), hn, if_pos hn⟩
    · rcases nxt_cases i t with ⟨h1, h2⟩ | ⟨C, m, D, rfl, h2, h3, h4⟩
      · refine .inl ⟨by unfold nxt; rw [if_neg hn]; exact h1, fun m hm => ?_⟩
        rcases List.mem_cons.1 hm with rfl | hm
        · omega
        · exact h2 m hm
      · refine .inr ⟨n :: C, m, D, rfl, fun x hx => ?_, h3, by unfold nxt; rw [if_neg hn]; exact h4⟩
        rcases List.mem_cons.1 hx with rfl | hx
        · omega
        · exact h2 x hx
/-- One entry, B behind it. -/
def NdAt (w : World) (base : Nat) (n : Nd) (B : List Nd) : Prop := ∃ cs kv, w.heap[n.b]? = some (.cells cs 54 (0, 0)) ∧ cs.size = 15 ∧ cs[0]? = some kv ∧
  (cs[1]? = some (.int .u64 n.a.c) ∧ cs[2]? = some (.bool n.a.o) ∧ cs[3]? = some (.int .i64 n.a.hi) ∧ cs[4]? = some (.int .u64 n.a.lo) ∧ cs[5]? = some (.int .i64 n.a.mn) ∧ cs[6]? = some (.int .i64 n.a.mx)) ∧
  (∀ i, i < 8 → i < n.h → cs[7 + i]? = some (nxt i B)) ∧ w.ownsRow base 5 1 kv n.k.length (nums .u8 n.k) ∧ base ≤ n.b
def NsAt (w : World) (base : Nat) : List Nd → Prop
  | [] => True
  | n :: t => NdAt w base n t ∧ NsAt w base t
/-- The list's own block. -/
def HdAt (fz : Bool) (w : World) (L : Nat) (ns : List Nd) (cnt : Int) : Prop := ∃ cs z, w.heap[L]? = some (.cells cs 56 (0, 0)) ∧ cs.size = 18 ∧ (∀ i, i < 8 → cs[7 + i]? = some (nxt i ns)) ∧ cs[15]? = some (.int .i64 cnt) ∧ cs[16]? = some (.int .i64 z) ∧ cs[17]? = some (.bool fz)
structure SkAt (fz : Bool) (w : World) (base L : Nat) (ns : List Nd) : Prop where
  hd : HdAt fz w L ns ns.length
  Lb : True
  nodes : NsAt w base ns
  srt : ns.Pairwise (fun m n => lts m.k n.k = true)
  nodup : (ns.map Nd.b).Nodup
  ky : ∀ n ∈ ns, Byt n.k ∧ 0 < n.k.length ∧ n.k.length ≤ 256
  ht : ∀ n ∈ ns, 1 ≤ n.h ∧ n.h ≤ 8
theorem NsAt.at {w : World} {base : Nat} : ∀ {A B : List Nd} {n : Nd}, NsAt w base (A ++ n :: B) → NdAt w base n B
  | [], _, _, h => h.1
  | _ :: A, _, _, h => NsAt.at (A := A) h.2
/-- Where a search stands: behind A, on level lev. -/
def Pos (L lev : Nat) (A : List Nd) (p : Nat) : Prop := (A = [] ∧ p = L) ∨ ∃ A' n, A = A' ++ [n] ∧ p = n.b ∧ lev < n.h
theorem SkAt.next {w : World} {base L lev p : Nat} {A B : List Nd} (h : SkAt fz w base L (A ++ B)) (hp : Pos L lev A p) (hl : lev < 8) : w.cell? ⟨p, 7 + lev, none⟩ = some (nxt lev B) := by
  rcases hp with ⟨rfl, rfl⟩ | ⟨A', n, rfl, rfl, hn⟩
  · obtain ⟨cs, z, h1, _, h2, _⟩ := h.hd
    exact (cell_of_row w p _ cs _ (0, 0) h1).trans (h2 lev hl)
  · have hn' := NsAt.at (A := A') (B := B) (n := n) (by have := h.nodes; simpa using this)
    obtain ⟨cs, kv, h1, _, _, _, h2, _⟩ := hn'
    exact (cell_of_row w n.b _ cs _ (0, 0) h1).trans (h2 lev hl hn)
theorem NsAt.move {w w1 : World} {base : Nat} : ∀ {ns : List Nd}, NsAt w base ns → (∀ (k : Nat) (cs : Array Value) (e : TypeId), w.heap[k]? = some (Obj.cells cs e (0, 0)) → e = 54 ∨ e = 5 → w1.heap[k]? = w.heap[k]?) → NsAt w1 base ns
  | [], _, _ => trivial
  | n :: t, ⟨⟨cs, kv, h1, h2, h3, h4, h5, h6, h7⟩, ht⟩, hm => by
    refine ⟨⟨cs, kv, (hm _ _ _ h1 (.inl rfl)).trans h1, h2, h3, h4, h5, own_move h6 (fun k hk => ?_), h7⟩, ht.move hm⟩
    obtain ⟨cs, hc⟩ := own_typed h6 k hk
    exact hm _ _ _ hc (.inr rfl)
/-- What holds blocks of entries, of bytes and of lists keeps the list. -/
theorem SkAt.move {w w1 : World} {base L : Nat} {ns : List Nd} (h : SkAt fz w base L ns) (hm : ∀ (k : Nat) (cs : Array Value) (e : TypeId), w.heap[k]? = some (Obj.cells cs e (0, 0)) → e = 54 ∨ e = 5 ∨ e = 56 → w1.heap[k]? = w.heap[k]?) : SkAt fz w1 base L ns := by
  obtain ⟨cs, z, h1, h2⟩ := h.hd
  exact ⟨⟨cs, z, (hm _ _ _ h1 (.inr (.inr rfl))).trans h1, h2⟩, h.Lb, h.nodes.move (fun k cs e hk he => hm k cs e hk (he.elim .inl (fun x => .inr (.inl x)))), h.srt, h.nodup, h.ky, h.ht⟩
theorem SkAt.below {w w1 : World} {base L : Nat} {ns : List Nd} (h : SkAt fz w base L ns) (hb : Below w.heap.size w w1) : SkAt fz w1 base L ns := h.move fun k cs e hk _ => hb.block k (blk_lt hk)
theorem own_rdb {w : World} {base : Nat} {v : Value} {k : List Int} (h : w.ownsRow base 5 1 v k.length (nums .u8 k)) : ∃ A c, v = .slice A k.length c ∧ RdB w A k ∧ k.length ≤ c := by
  have hR : (Kd.int .u8).R 5 w base (fun _ => True) v k := Kd.R_of_own h (fun _ _ => trivial)
  obtain ⟨A, c, rfl, hl, hc⟩ := Kd.R_reads hR
  exact ⟨A, c, rfl, hc, hl⟩
theorem SkAt.key {w : World} {base L : Nat} {A B : List Nd} {n : Nd} (h : SkAt fz w base L (A ++ n :: B)) : ∃ Ak c, w.cell? ⟨n.b, 0, none⟩ = some (.slice Ak n.k.length c) ∧ RdB w Ak n.k ∧ n.k.length ≤ c := by
  obtain ⟨cs, kv, h1, _, h3, _, _, h6, _⟩ := NsAt.at h.nodes
  obtain ⟨A, c, rfl, hc, hl⟩ := own_rdb h6
  exact ⟨A, c, (cell_of_row w n.b _ cs _ (0, 0) h1).trans h3, hc, hl⟩
variable {fz : Bool}
/-- Eight pointers: the last towers on each level. -/
def Eight (L : Nat) (P : List Nd) : Array Value := #[ptr (prd L 0 P), ptr (prd L 1 P), ptr (prd L 2 P), ptr (prd L 3 P), ptr (prd L 4 P), ptr (prd L 5 P), ptr (prd L 6 P), ptr (prd L 7 P)]
/-- The row of pointers, done above level j. -/
def RowAt (w : World) (o L : Nat) (P : List Nd) (j : Nat) : Prop := ∃ cs, w.heap[o]? = some (.cells cs 52 (0, 0)) ∧ cs.size = 8 ∧ ∀ i, j ≤ i → i < 8 → cs[i]? = some (ptr (prd L i P))
theorem prd_pos {L lev p : Nat} {A : List Nd} (h : Pos L lev A p) : prd L lev A = p := by
  rcases h with ⟨rfl, rfl⟩ | ⟨A', n, rfl, rfl, hn⟩
  · rfl
  · rw [prd_append]
    show (if lev < n.h then n.b else _) = n.b
    rw [if_pos hn]
/-- One look ahead. -/
theorem look {k : List Int} {D S : List Nd} (lev : Nat) (hD : ∀ n ∈ D, lts n.k k = true) (hS : ∀ n ∈ S, lts n.k k = false) :
    (nxt lev (D ++ S) = .pointer none ∧ ∀ n ∈ D, n.h ≤ lev) ∨ ∃ n C E, nxt lev (D ++ S) = ptr n.b ∧ D ++ S = C ++ n :: E ∧ lev < n.h ∧ ((∃ D', D = C ++ n :: D' ∧ lts n.k k = true) ∨ (lts n.k k = false ∧ ∀ m ∈ D, m.h ≤ lev)) := by
  rcases nxt_cases lev (D ++ S) with ⟨h1, h2⟩ | ⟨C, n, E, h1, h2, h3, h4⟩
  · exact .inl ⟨h1, fun n hn => h2 n (by simp [hn])⟩
  · refine .inr ⟨n, C, E, h4, h1, h3, ?_⟩
    by_cases hl : C.length < D.length
    · left
      have h5 := List.append_eq_append_iff.1 h1
      rcases h5 with ⟨a', h6, h7⟩ | ⟨c', h6, h7⟩
      · exfalso
        rw [h6] at hl
        simp at hl
        omega
      · cases c' with
        | nil => simp at h6; rw [h6] at hl; omega
        | cons x c' =>
          simp at h7
          obtain ⟨rfl, h7⟩ := h7
          exact ⟨c', h6, hD _ (by rw [h6]; simp)⟩
    · right
      have h5 := List.append_eq_append_iff.1 h1
      rcases h5 with ⟨a', h6, h7⟩ | ⟨c', h6, h7⟩
      · refine ⟨hS n (by rw [h7]; simp), fun m hm => h2 m (by rw [h6]; simp [hm])⟩
      · have hc : c' = [] := by
          cases c' with
          | nil => rfl
          | cons x c' => rw [h6] at hl; simp at hl
        subst hc
        simp at h6 h7
        exact ⟨hS n (by rw [← h7]; simp), fun m hm => h2 m (by rw [← h6]; exact hm)⟩
theorem RowAt.put {w : World} {o L j p : Nat} {P : List Nd} (h : RowAt w o L P (j + 1)) (hj : j < 8) (hp : prd L j P = p) : RowAt (w.setCell ⟨o, j, none⟩ (.pointer (some ⟨p, 0, none⟩))) o L P j := by
  obtain ⟨cs, h1, h2, h3⟩ := h
  refine ⟨cs.setIfInBounds j (.pointer (some ⟨p, 0, none⟩)), blk_put h1 j _ rfl, by simpa using h2, fun i hi hi8 => ?_⟩
  by_cases hij : i = j
  · subst hij
    rw [Array.getElem?_setIfInBounds, if_pos rfl, if_pos (by omega), hp]
    rfl
  · rw [Array.getElem?_setIfInBounds, if_neg (by omega)]
    exact h3 i (by omega) hi8
theorem RowAt.all {w : World} {o L : Nat} {P : List Nd} (h : RowAt w o L P 0) : w.heap[o]? = some (.cells (Eight L P) 52 (0, 0)) := by
  obtain ⟨cs, h1, h2, h3⟩ := h
  have : cs = Eight L P := by
    apply Array.ext
    · exact h2
    · intro i hi1 hi2
      have h8 : i < 8 := hi2
      have := h3 i (by omega) h8
      rw [Array.getElem?_eq_getElem hi1] at this
      have e := Option.some.inj this
      rw [e]
      rcases (by omega : i = 0 ∨ i = 1 ∨ i = 2 ∨ i = 3 ∨ i = 4 ∨ i = 5 ∨ i = 6 ∨ i = 7) with rfl | rfl | rfl | rfl | rfl | rfl | rfl | rfl <;> rfl
  rw [h1, this]
theorem blk_eight {w : World} {g : Nat} {t : TypeId} {c0 c1 c2 c3 c4 c5 c6 c7 : Value} (h : w.heap[g]? = some (.cells #[c0, c1, c2, c3, c4, c5, c6, c7] t (0, 0))) (v0 v1 v2 v3 v4 v5 v6 v7 : Value) : ((((((((w.setCell ⟨g, 0, none⟩ v0).setCell ⟨g, 1, none⟩ v1).setCell ⟨g, 2, none⟩ v2).setCell ⟨g, 3, none⟩ v3).setCell ⟨g, 4, none⟩ v4).setCell ⟨g, 5, none⟩ v5).setCell ⟨g, 6, none⟩ v6).setCell ⟨g, 7, none⟩ v7).heap[g]? = some (.cells #[v0, v1, v2, v3, v4, v5, v6, v7] t (0, 0)) := by
  have h0 : (w.setCell ⟨g, 0, none⟩ v0).heap[g]? = some (.cells #[v0, c1, c2, c3, c4, c5, c6, c7] t (0, 0)) := blk_put h 0 v0 rfl
  have h1 : ((w.setCell ⟨g, 0, none⟩ v0).setCell ⟨g, 1, none⟩ v1).heap[g]? = some (.cells #[v0, v1, c2, c3, c4, c5, c6, c7] t (0, 0)) := blk_put h0 1 v1 rfl
  have h2 : (((w.setCell ⟨g, 0, none⟩ v0).setCell ⟨g, 1, none⟩ v1).setCell ⟨g, 2, none⟩ v2).heap[g]? = some (.cells #[v0, v1, v2, c3, c4, c5, c6, c7] t (0, 0)) := blk_put h1 2 v2 rfl
  have h3 : ((((w.setCell ⟨g, 0, none⟩ v0).setCell ⟨g, 1, none⟩ v1).setCell ⟨g, 2, none⟩ v2).setCell ⟨g, 3, none⟩ v3).heap[g]? = some (.cells #[v0, v1, v2, v3, c4, c5, c6, c7] t (0, 0)) := blk_put h2 3 v3 rfl
  have h4 : (((((w.setCell ⟨g, 0, none⟩ v0).setCell ⟨g, 1, none⟩ v1).setCell ⟨g, 2, none⟩ v2).setCell ⟨g, 3, none⟩ v3).setCell ⟨g, 4, none⟩ v4).heap[g]? = some (.cells #[v0, v1, v2, v3, v4, c5, c6, c7] t (0, 0)) := blk_put h3 4 v4 rfl
  have h5 : ((((((w.setCell ⟨g, 0, none⟩ v0).setCell ⟨g, 1, none⟩ v1).setCell ⟨g, 2, none⟩ v2).setCell ⟨g, 3, none⟩ v3).setCell ⟨g, 4, none⟩ v4).setCell ⟨g, 5, none⟩ v5).heap[g]? = some (.cells #[v0, v1, v2, v3, v4, v5, c6, c7] t (0, 0)) := blk_put h4 5 v5 rfl
  have h6 : (((((((w.setCell ⟨g, 0, none⟩ v0).setCell ⟨g, 1, none⟩ v1).setCell ⟨g, 2, none⟩ v2).setCell ⟨g, 3, none⟩ v3).setCell ⟨g, 4, none⟩ v4).setCell ⟨g, 5, none⟩ v5).setCell ⟨g, 6, none⟩ v6).heap[g]? = some (.cells #[v0, v1, v2, v3, v4, v5, v6, c7] t (0, 0)) := blk_put h5 6 v6 rfl
  have h7 : ((((((((w.setCell ⟨g, 0, none⟩ v0).setCell ⟨g, 1, none⟩ v1).setCell ⟨g, 2, none⟩ v2).setCell ⟨g, 3, none⟩ v3).setCell ⟨g, 4, none⟩ v4).setCell ⟨g, 5, none⟩ v5).setCell ⟨g, 6, none⟩ v6).setCell ⟨g, 7, none⟩ v7).heap[g]? = some (.cells #[v0, v1, v2, v3, v4, v5, v6, v7] t (0, 0)) := blk_put h6 7 v7 rfl
  exact h7
theorem below_eight {B : Nat} {w0 w : World} {g : Nat} (h : Below B w0 w) (hg : B ≤ g) (v0 v1 v2 v3 v4 v5 v6 v7 : Value) : Below B w0 ((((((((w.setCell ⟨g, 0, none⟩ v0).setCell ⟨g, 1, none⟩ v1).setCell ⟨g, 2, none⟩ v2).setCell ⟨g, 3, none⟩ v3).setCell ⟨g, 4, none⟩ v4).setCell ⟨g, 5, none⟩ v5).setCell ⟨g, 6, none⟩ v6).setCell ⟨g, 7, none⟩ v7) := ((((((((h.setCell (p := ⟨g, 0, none⟩) hg v0).setCell (p := ⟨g, 1, none⟩) hg v1).setCell (p := ⟨g, 2, none⟩) hg v2).setCell (p := ⟨g, 3, none⟩) hg v3).setCell (p := ⟨g, 4, none⟩) hg v4).setCell (p := ⟨g, 5, none⟩) hg v5).setCell (p := ⟨g, 6, none⟩) hg v6).setCell (p := ⟨g, 7, none⟩) hg v7)
set_option maxHeartbeats 4000000 in
set_option maxRecDepth 100000 in
theorem find_c {w : World} {base L c : Nat} {A : Option Addr} {k : List Int} {P S : List Nd} (h : SkAt fz w base L (P ++ S)) (hk : RdB w A k) (hb : Byt k) (hP : ∀ n ∈ P, lts n.k k = true) (hS : ∀ n ∈ S, lts n.k k = false) :
    Calls Try.prog 22 #[ptr L, .slice A k.length c] w fun e w' => e = .returned (.agg (Eight L P)) ∧ Below w.heap.size w w' := by
  unfold ptr
  have HK := Aside0.mk hk
  have HP := Aside0.mk hP
  have HS := Aside0.mk hS
  have H0 := Aside0.mk h
  have hB : Below w.heap.size w ((w.alloc (.cells #[.pointer none, .pointer none, .pointer none, .pointer none, .pointer none, .pointer none, .pointer none, .pointer none] 52)).alloc (.cells #[.pointer none, .pointer none, .pointer none, .pointer none, .pointer none, .pointer none, .pointer none, .pointer none] 52)) := (((Below.refl _ w).alloc (Nat.le_refl _) _).alloc (by simp [World.size_alloc]) _)
  have hR : ((w.alloc (.cells #[.pointer none, .pointer none, .pointer none, .pointer none, .pointer none, .pointer none, .pointer none, .pointer none] 52)).alloc (.cells #[.pointer none, .pointer none, .pointer none, .pointer none, .pointer none, .pointer none, .pointer none, .pointer none] 52)).heap[w.heap.size]? = some (.cells #[.pointer none, .pointer none, .pointer none, .pointer none, .pointer none, .pointer none, .pointer none, .pointer none] 52 (0, 0)) := al_old (al_new rfl) _
  have hO : RowAt ((w.alloc (.cells #[.pointer none, .pointer none, .pointer none, .pointer none, .pointer none, .pointer none, .pointer none, .pointer none] 52)).alloc (.cells #[.pointer none, .pointer none, .pointer none, .pointer none, .pointer none, .pointer none, .pointer none, .pointer none] 52)) (w.heap.size + 1) L P 8 := ⟨_, al_new (by simp [World.size_alloc]), rfl, fun i h1 h2 => by omega⟩
  clear hk hP hS h
  go_enter Try.func22, Try.ntmps22
  go_wp2_with (first | go_step3 | fail)
  go_loopg [6, 7] (7 * (P.length + 1) + P.length) (fun m pv lv wr => ∃ (lev p : Nat) (B D : List Nd), pv = .pointer (some ⟨p, 0, none⟩) ∧ lv = .int .i64 lev ∧ lev < 8 ∧ Aside0 (P = B ++ D) ∧ Aside0 (Pos L lev B p) ∧ RowAt wr (w.heap.size + 1) L P (lev + 1) ∧
    wr.heap[w.heap.size]? = some (.cells #[.pointer none, .pointer none, .pointer none, .pointer none, .pointer none, .pointer none, .pointer none, .pointer none] 52 (0, 0)) ∧ Below w.heap.size w wr ∧ m = lev * (P.length + 1) + D.length)
  case atStart => exact ⟨7, L, [], P, rfl, rfl, by omega, ⟨rfl⟩, ⟨.inl ⟨rfl, rfl⟩⟩, hO, hR, hB, rfl⟩
  case round =>
    clear hB hR hO
    obtain ⟨lev, p, B, D, rfl, rfl, hl8, HE, HPos, hO, hR, hB, rfl⟩ := hrel
    have hSk := H0.out.below hB
    rw [HE.out, List.append_assoc] at hSk
    have hx := hSk.next HPos.out hl8
    have hlen : P.length = B.length + D.length := by rw [HE.out, List.length_append]
    obtain ⟨v0, hv0⟩ : ∃ v, wr.cell? ⟨w.heap.size + 1, lev, none⟩ = some v := by
      obtain ⟨cs, h1, h2, _⟩ := hO
      exact ⟨_, (cell_of_row wr _ _ cs _ (0, 0) h1).trans (Array.getElem?_eq_getElem (by omega))⟩
    have f0 : ∀ i, wr.frozen? ⟨w.heap.size + 1, i, none⟩ = false := fun i => by
      obtain ⟨cs, h1, _⟩ := hO
      exact blk_frozen h1 i
    rcases look (D := D) (S := S) lev (fun n hn => HP.out n (by rw [HE.out]; simp [hn])) HS.out with ⟨h1, hlow⟩ | ⟨n, C, E, h1, h2, h3, ⟨D', h4, h5⟩ | ⟨h4, hlow⟩⟩
    · rw [h1] at hx
      have hprd : prd L lev P = p := by rw [HE.out, prd_append, prd_pos HPos.out, prd_low _ hlow]
      subst hprd
      rcases (show lev = 0 ∨ ∃ l', lev = l' + 1 by cases lev with | zero => exact .inl rfl | succ l' => exact .inr ⟨l', rfl⟩) with rfl | ⟨l', rfl⟩
      · have hO1 := (hO.put (p := prd L 0 P) (by omega) rfl).all
        have hR1 : (wr.setCell ⟨w.heap.size + 1, 0, none⟩ (.pointer (some ⟨prd L 0 P, 0, none⟩))).heap[w.heap.size]? = _ := (Below.heap_setCell _ _ _ _ (by simp)).trans hR
        have hB1 : Below w.heap.size w (wr.setCell ⟨w.heap.size + 1, 0, none⟩ (.pointer (some ⟨prd L 0 P, 0, none⟩))) := hB.setCell (p := ⟨w.heap.size + 1, 0, none⟩) (by simp) _
        have e0 : (wr.setCell ⟨w.heap.size + 1, 0, none⟩ (.pointer (some ⟨prd L 0 P, 0, none⟩))).cell? ⟨w.heap.size + 1, 0, none⟩ = some (.pointer (some ⟨prd L 0 P, 0, none⟩)) := (blk_cell hO1 0).trans rfl
        have e1 : (wr.setCell ⟨w.heap.size + 1, 0, none⟩ (.pointer (some ⟨prd L 0 P, 0, none⟩))).cell? ⟨w.heap.size + 1, 1, none⟩ = some (.pointer (some ⟨prd L 1 P, 0, none⟩)) := (blk_cell hO1 1).trans rfl
        have e2 : (wr.setCell ⟨w.heap.size + 1, 0, none⟩ (.pointer (some ⟨prd L 0 P, 0, none⟩))).cell? ⟨w.heap.size + 1, 2, none⟩ = some (.pointer (some ⟨prd L 2 P, 0, none⟩)) := (blk_cell hO1 2).trans rfl
        have e3 : (wr.setCell ⟨w.heap.size + 1, 0, none⟩ (.pointer (some ⟨prd L 0 P, 0, none⟩))).cell? ⟨w.heap.size + 1, 3, none⟩ = some (.pointer (some ⟨prd L 3 P, 0, none⟩)) := (blk_cell hO1 3).trans rfl
        have e4 : (wr.setCell ⟨w.heap.size + 1, 0, none⟩ (.pointer (some ⟨prd L 0 P, 0, none⟩))).cell? ⟨w.heap.size + 1, 4, none⟩ = some (.pointer (some ⟨prd L 4 P, 0, none⟩)) := (blk_cell hO1 4).trans rfl
        have e5 : (wr.setCell ⟨w.heap.size + 1, 0, none⟩ (.pointer (some ⟨prd L 0 P, 0, none⟩))).cell? ⟨w.heap.size + 1, 5, none⟩ = some (.pointer (some ⟨prd L 5 P, 0, none⟩)) := (blk_cell hO1 5).trans rfl
        have e6 : (wr.setCell ⟨w.heap.size + 1, 0, none⟩ (.pointer (some ⟨prd L 0 P, 0, none⟩))).cell? ⟨w.heap.size + 1, 6, none⟩ = some (.pointer (some ⟨prd L 6 P, 0, none⟩)) := (blk_cell hO1 6).trans rfl
        have e7 : (wr.setCell ⟨w.heap.size + 1, 0, none⟩ (.pointer (some ⟨prd L 0 P, 0, none⟩))).cell? ⟨w.heap.size + 1, 7, none⟩ = some (.pointer (some ⟨prd L 7 P, 0, none⟩)) := (blk_cell hO1 7).trans rfl
        have r0 : (wr.setCell ⟨w.heap.size + 1, 0, none⟩ (.pointer (some ⟨prd L 0 P, 0, none⟩))).cell? ⟨w.heap.size, 0, none⟩ = some (.pointer none) := (blk_cell hR1 0).trans rfl
        have r1 : (wr.setCell ⟨w.heap.size + 1, 0, none⟩ (.pointer (some ⟨prd L 0 P, 0, none⟩))).cell? ⟨w.heap.size, 1, none⟩ = some (.pointer none) := (blk_cell hR1 1).trans rfl
        have r2 : (wr.setCell ⟨w.heap.size + 1, 0, none⟩ (.pointer (some ⟨prd L 0 P, 0, none⟩))).cell? ⟨w.heap.size, 2, none⟩ = some (.pointer none) := (blk_cell hR1 2).trans rfl
        have r3 : (wr.setCell ⟨w.heap.size + 1, 0, none⟩ (.pointer (some ⟨prd L 0 P, 0, none⟩))).cell? ⟨w.heap.size, 3, none⟩ = some (.pointer none) := (blk_cell hR1 3).trans rfl
        have r4 : (wr.setCell ⟨w.heap.size + 1, 0, none⟩ (.pointer (some ⟨prd L 0 P, 0, none⟩))).cell? ⟨w.heap.size, 4, none⟩ = some (.pointer none) := (blk_cell hR1 4).trans rfl
        have r5 : (wr.setCell ⟨w.heap.size + 1, 0, none⟩ (.pointer (some ⟨prd L 0 P, 0, none⟩))).cell? ⟨w.heap.size, 5, none⟩ = some (.pointer none) := (blk_cell hR1 5).trans rfl
        have r6 : (wr.setCell ⟨w.heap.size + 1, 0, none⟩ (.pointer (some ⟨prd L 0 P, 0, none⟩))).cell? ⟨w.heap.size, 6, none⟩ = some (.pointer none) := (blk_cell hR1 6).trans rfl
        have r7 : (wr.setCell ⟨w.heap.size + 1, 0, none⟩ (.pointer (some ⟨prd L 0 P, 0, none⟩))).cell? ⟨w.heap.size, 7, none⟩ = some (.pointer none) := (blk_cell hR1 7).trans rfl
        have q0 : (wr.setCell ⟨w.heap.size + 1, 0, none⟩ (.pointer (some ⟨prd L 0 P, 0, none⟩))).frozen? ⟨w.heap.size, 0, none⟩ = false := blk_frozen hR1 0
        have q1 : (wr.setCell ⟨w.heap.size + 1, 0, none⟩ (.pointer (some ⟨prd L 0 P, 0, none⟩))).frozen? ⟨w.heap.size, 1, none⟩ = false := blk_frozen hR1 1
        have q2 : (wr.setCell ⟨w.heap.size + 1, 0, none⟩ (.pointer (some ⟨prd L 0 P, 0, none⟩))).frozen? ⟨w.heap.size, 2, none⟩ = false := blk_frozen hR1 2
        have q3 : (wr.setCell ⟨w.heap.size + 1, 0, none⟩ (.pointer (some ⟨prd L 0 P, 0, none⟩))).frozen? ⟨w.heap.size, 3, none⟩ = false := blk_frozen hR1 3
        have q4 : (wr.setCell ⟨w.heap.size + 1, 0, none⟩ (.pointer (some ⟨prd L 0 P, 0, none⟩))).frozen? ⟨w.heap.size, 4, none⟩ = false := blk_frozen hR1 4
        have q5 : (wr.setCell ⟨w.heap.size + 1, 0, none⟩ (.pointer (some ⟨prd L 0 P, 0, none⟩))).frozen? ⟨w.heap.size, 5, none⟩ = false := blk_frozen hR1 5
        have q6 : (wr.setCell ⟨w.heap.size + 1, 0, none⟩ (.pointer (some ⟨prd L 0 P, 0, none⟩))).frozen? ⟨w.heap.size, 6, none⟩ = false := blk_frozen hR1 6
        have q7 : (wr.setCell ⟨w.heap.size + 1, 0, none⟩ (.pointer (some ⟨prd L 0 P, 0, none⟩))).frozen? ⟨w.heap.size, 7, none⟩ = false := blk_frozen hR1 7
        clear HE HPos hO hR hB hSk
        go_wp2
        rw [Exit.noGoto_ret]
        refine bodyPost_ret (results_cell_row rfl _ _ w.heap.size 52 (Eight L P) (0, 0) _ rfl (blk_eight hR1 _ _ _ _ _ _ _ _) Try.underlying52 rfl (by kernel_rfl)) rfl ?_
        exact ⟨rfl, below_eight hB1 (Nat.le_refl _) _ _ _ _ _ _ _ _⟩
      · have hO1 := hO.put (p := prd L (l' + 1) P) (by omega) rfl
        have hR1 : (wr.setCell ⟨w.heap.size + 1, l' + 1, none⟩ (.pointer (some ⟨prd L (l' + 1) P, 0, none⟩))).heap[w.heap.size]? = _ := (Below.heap_setCell _ _ _ _ (by simp)).trans hR
        have hB1 : Below w.heap.size w (wr.setCell ⟨w.heap.size + 1, l' + 1, none⟩ (.pointer (some ⟨prd L (l' + 1) P, 0, none⟩))) := hB.setCell (p := ⟨w.heap.size + 1, l' + 1, none⟩) (by simp) _
        have hPos1 : Pos L l' B (prd L (l' + 1) P) := by
          rcases HPos.out with h | ⟨B', n', hb1, hb2, hb3⟩
          · exact .inl h
          · exact .inr ⟨B', n', hb1, hb2, by omega⟩
        have HPos1 := Aside0.mk hPos1
        clear hSk hPos1
        go_wp2
        go_roundg (l' * (P.length + 1) + D.length)
        case measure => rw [Nat.succ_mul]; omega
        case rel => exact ⟨l', prd L (l' + 1) P, B, D, rfl, by go_num, by omega, HE, HPos1, hO1, hR1, hB1, rfl⟩
    · rw [h1] at hx
      unfold ptr at hx
      rw [h2, ← List.append_assoc] at hSk
      obtain ⟨Ak, ck, hkc, hkr, _⟩ := hSk.key
      have hkb := (hSk.ky n (by simp)).1
      have hd : decide (cmpB n.k k < 0) = true := by rw [less_dec hkb hb]; exact h5
      have HKr := Aside0.mk hkr
      have HE1 : Aside0 (P = (B ++ C ++ [n]) ++ D') := ⟨by rw [HE.out, h4]; simp⟩
      have HPos1 : Aside0 (Pos L lev (B ++ C ++ [n]) n.b) := ⟨.inr ⟨B ++ C, n, rfl, rfl, h3⟩⟩
      have hm : D'.length < D.length := by rw [h4]; simp; omega
      have HKw : Aside0 (RdB wr A k) := ⟨HK.out.below hB⟩
      clear hSk hkr h2 h4 hlen
      go_wp2_with (refine (compare_c HKr.out HKw.out).mono ?_; rintro e w3 ⟨rfl, rfl⟩)
      go_roundg (lev * (P.length + 1) + D'.length)
      case measure => omega
      case rel => exact ⟨lev, n.b, B ++ C ++ [n], D', rfl, rfl, by omega, HE1, HPos1, hO, hR, hB, rfl⟩
    · rw [h1] at hx
      unfold ptr at hx
      rw [h2, ← List.append_assoc] at hSk
      obtain ⟨Ak, ck, hkc, hkr, _⟩ := hSk.key
      have hkb := (hSk.ky n (by simp)).1
      have hd : decide (cmpB n.k k < 0) = false := by rw [less_dec hkb hb]; exact h4
      have HKr := Aside0.mk hkr
      have HKw : Aside0 (RdB wr A k) := ⟨HK.out.below hB⟩
      clear hkr h2
      have hprd : prd L lev P = p := by rw [HE.out, prd_append, prd_pos HPos.out, prd_low _ hlow]
      subst hprd
      rcases (show lev = 0 ∨ ∃ l', lev = l' + 1 by cases lev with | zero => exact .inl rfl | succ l' => exact .inr ⟨l', rfl⟩) with rfl | ⟨l', rfl⟩
      · have hO1 := (hO.put (p := prd L 0 P) (by omega) rfl).all
        have hR1 : (wr.setCell ⟨w.heap.size + 1, 0, none⟩ (.pointer (some ⟨prd L 0 P, 0, none⟩))).heap[w.heap.size]? = _ := (Below.heap_setCell _ _ _ _ (by simp)).trans hR
        have hB1 : Below w.heap.size w (wr.setCell ⟨w.heap.size + 1, 0, none⟩ (.pointer (some ⟨prd L 0 P, 0, none⟩))) := hB.setCell (p := ⟨w.heap.size + 1, 0, none⟩) (by simp) _
        have e0 : (wr.setCell ⟨w.heap.size + 1, 0, none⟩ (.pointer (some ⟨prd L 0 P, 0, none⟩))).cell? ⟨w.heap.size + 1, 0, none⟩ = some (.pointer (some ⟨prd L 0 P, 0, none⟩)) := (blk_cell hO1 0).trans rfl
        have e1 : (wr.setCell ⟨w.heap.size + 1, 0, none⟩ (.pointer (some ⟨prd L 0 P, 0, none⟩))).cell? ⟨w.heap.size + 1, 1, none⟩ = some (.pointer (some ⟨prd L 1 P, 0, none⟩)) := (blk_cell hO1 1).trans rfl
        have e2 : (wr.setCell ⟨w.heap.size + 1, 0, none⟩ (.pointer (some ⟨prd L 0 P, 0, none⟩))).cell? ⟨w.heap.size + 1, 2, none⟩ = some (.pointer (some ⟨prd L 2 P, 0, none⟩)) := (blk_cell hO1 2).trans rfl
        have e3 : (wr.setCell ⟨w.heap.size + 1, 0, none⟩ (.pointer (some ⟨prd L 0 P, 0, none⟩))).cell? ⟨w.heap.size + 1, 3, none⟩ = some (.pointer (some ⟨prd L 3 P, 0, none⟩)) := (blk_cell hO1 3).trans rfl
        have e4 : (wr.setCell ⟨w.heap.size + 1, 0, none⟩ (.pointer (some ⟨prd L 0 P, 0, none⟩))).cell? ⟨w.heap.size + 1, 4, none⟩ = some (.pointer (some ⟨prd L 4 P, 0, none⟩)) := (blk_cell hO1 4).trans rfl
        have e5 : (wr.setCell ⟨w.heap.size + 1, 0, none⟩ (.pointer (some ⟨prd L 0 P, 0, none⟩))).cell? ⟨w.heap.size + 1, 5, none⟩ = some (.pointer (some ⟨prd L 5 P, 0, none⟩)) := (blk_cell hO1 5).trans rfl
        have e6 : (wr.setCell ⟨w.heap.size + 1, 0, none⟩ (.pointer (some ⟨prd L 0 P, 0, none⟩))).cell? ⟨w.heap.size + 1, 6, none⟩ = some (.pointer (some ⟨prd L 6 P, 0, none⟩)) := (blk_cell hO1 6).trans rfl
        have e7 : (wr.setCell ⟨w.heap.size + 1, 0, none⟩ (.pointer (some ⟨prd L 0 P, 0, none⟩))).cell? ⟨w.heap.size + 1, 7, none⟩ = some (.pointer (some ⟨prd L 7 P, 0, none⟩)) := (blk_cell hO1 7).trans rfl
        have r0 : (wr.setCell ⟨w.heap.size + 1, 0, none⟩ (.pointer (some ⟨prd L 0 P, 0, none⟩))).cell? ⟨w.heap.size, 0, none⟩ = some (.pointer none) := (blk_cell hR1 0).trans rfl
        have r1 : (wr.setCell ⟨w.heap.size + 1, 0, none⟩ (.pointer (some ⟨prd L 0 P, 0, none⟩))).cell? ⟨w.heap.size, 1, none⟩ = some (.pointer none) := (blk_cell hR1 1).trans rfl
        have r2 : (wr.setCell ⟨w.heap.size + 1, 0, none⟩ (.pointer (some ⟨prd L 0 P, 0, none⟩))).cell? ⟨w.heap.size, 2, none⟩ = some (.pointer none) := (blk_cell hR1 2).trans rfl
        have r3 : (wr.setCell ⟨w.heap.size + 1, 0, none⟩ (.pointer (some ⟨prd L 0 P, 0, none⟩))).cell? ⟨w.heap.size, 3, none⟩ = some (.pointer none) := (blk_cell hR1 3).trans rfl
        have r4 : (wr.setCell ⟨w.heap.size + 1, 0, none⟩ (.pointer (some ⟨prd L 0 P, 0, none⟩))).cell? ⟨w.heap.size, 4, none⟩ = some (.pointer none) := (blk_cell hR1 4).trans rfl
        have r5 : (wr.setCell ⟨w.heap.size + 1, 0, none⟩ (.pointer (some ⟨prd L 0 P, 0, none⟩))).cell? ⟨w.heap.size, 5, none⟩ = some (.pointer none) := (blk_cell hR1 5).trans rfl
        have r6 : (wr.setCell ⟨w.heap.size + 1, 0, none⟩ (.pointer (some ⟨prd L 0 P, 0, none⟩))).cell? ⟨w.heap.size, 6, none⟩ = some (.pointer none) := (blk_cell hR1 6).trans rfl
        have r7 : (wr.setCell ⟨w.heap.size + 1, 0, none⟩ (.pointer (some ⟨prd L 0 P, 0, none⟩))).cell? ⟨w.heap.size, 7, none⟩ = some (.pointer none) := (blk_cell hR1 7).trans rfl
        have q0 : (wr.setCell ⟨w.heap.size + 1, 0, none⟩ (.pointer (some ⟨prd L 0 P, 0, none⟩))).frozen? ⟨w.heap.size, 0, none⟩ = false := blk_frozen hR1 0
        have q1 : (wr.setCell ⟨w.heap.size + 1, 0, none⟩ (.pointer (some ⟨prd L 0 P, 0, none⟩))).frozen? ⟨w.heap.size, 1, none⟩ = false := blk_frozen hR1 1
        have q2 : (wr.setCell ⟨w.heap.size + 1, 0, none⟩ (.pointer (some ⟨prd L 0 P, 0, none⟩))).frozen? ⟨w.heap.size, 2, none⟩ = false := blk_frozen hR1 2
        have q3 : (wr.setCell ⟨w.heap.size + 1, 0, none⟩ (.pointer (some ⟨prd L 0 P, 0, none⟩))).frozen? ⟨w.heap.size, 3, none⟩ = false := blk_frozen hR1 3
        have q4 : (wr.setCell ⟨w.heap.size + 1, 0, none⟩ (.pointer (some ⟨prd L 0 P, 0, none⟩))).frozen? ⟨w.heap.size, 4, none⟩ = false := blk_frozen hR1 4
        have q5 : (wr.setCell ⟨w.heap.size + 1, 0, none⟩ (.pointer (some ⟨prd L 0 P, 0, none⟩))).frozen? ⟨w.heap.size, 5, none⟩ = false := blk_frozen hR1 5
        have q6 : (wr.setCell ⟨w.heap.size + 1, 0, none⟩ (.pointer (some ⟨prd L 0 P, 0, none⟩))).frozen? ⟨w.heap.size, 6, none⟩ = false := blk_frozen hR1 6
        have q7 : (wr.setCell ⟨w.heap.size + 1, 0, none⟩ (.pointer (some ⟨prd L 0 P, 0, none⟩))).frozen? ⟨w.heap.size, 7, none⟩ = false := blk_frozen hR1 7
        clear HE HPos hO hR hB hSk
        go_wp2_with (refine (compare_c HKr.out HKw.out).mono ?_; rintro e w3 ⟨rfl, rfl⟩)
        rw [Exit.noGoto_ret]
        refine bodyPost_ret (results_cell_row rfl _ _ w.heap.size 52 (Eight L P) (0, 0) _ rfl (blk_eight hR1 _ _ _ _ _ _ _ _) Try.underlying52 rfl (by kernel_rfl)) rfl ?_
        exact ⟨rfl, below_eight hB1 (Nat.le_refl _) _ _ _ _ _ _ _ _⟩
      · have hO1 := hO.put (p := prd L (l' + 1) P) (by omega) rfl
        have hR1 : (wr.setCell ⟨w.heap.size + 1, l' + 1, none⟩ (.pointer (some ⟨prd L (l' + 1) P, 0, none⟩))).heap[w.heap.size]? = _ := (Below.heap_setCell _ _ _ _ (by simp)).trans hR
        have hB1 : Below w.heap.size w (wr.setCell ⟨w.heap.size + 1, l' + 1, none⟩ (.pointer (some ⟨prd L (l' + 1) P, 0, none⟩))) := hB.setCell (p := ⟨w.heap.size + 1, l' + 1, none⟩) (by simp) _
        have hPos1 : Pos L l' B (prd L (l' + 1) P) := by
          rcases HPos.out with h | ⟨B', n', hb1, hb2, hb3⟩
          · exact .inl h
          · exact .inr ⟨B', n', hb1, hb2, by omega⟩
        have HPos1 := Aside0.mk hPos1
        clear hSk hPos1
        go_wp2_with (refine (compare_c HKr.out HKw.out).mono ?_; rintro e w3 ⟨rfl, rfl⟩)
        go_roundg (l' * (P.length + 1) + D.length)
        case measure => rw [Nat.succ_mul]; omega
        case rel => exact ⟨l', prd L (l' + 1) P, B, D, rfl, by go_num, by omega, HE, HPos1, hO1, hR1, hB1, rfl⟩
variable {fz : Bool}
section
variable {w : World} {base L : Nat}
/-- Another block is written: the entry stands. -/
theorem NdAt.off {n : Nd} {B : List Nd} (h : NdAt w base n B) {X o : Nat} {t : TypeId} {cs : Array Value} (hne : n.b ≠ X) (hX : w.heap[X]? = some (.cells cs t (0, 0))) (ht : t ≠ 5) (v : Value) : NdAt (w.setCell ⟨X, o, none⟩ v) base n B := by
  obtain ⟨cs1, kv, h1, h2, h3, h4, h5, h6, h7⟩ := h
  refine ⟨cs1, kv, (Below.heap_setCell _ _ _ _ hne).trans h1, h2, h3, h4, h5, own_move h6 (fun k hk => Below.heap_setCell _ _ _ _ ?_), h7⟩
  rintro rfl
  obtain ⟨cs2, hc⟩ := own_typed h6 _ hk
  rw [hX] at hc
  simp at hc
  exact ht hc.2
theorem NsAt.off {X o : Nat} {t : TypeId} {cs : Array Value} (hX : w.heap[X]? = some (.cells cs t (0, 0))) (ht : t ≠ 5) (v : Value) : ∀ {ns : List Nd}, NsAt w base ns → (∀ n ∈ ns, n.b ≠ X) → NsAt (w.setCell ⟨X, o, none⟩ v) base ns
  | [], _, _ => trivial
  | n :: t', ⟨h1, h2⟩, hne => ⟨h1.off (hne n (by simp)) hX ht v, NsAt.off hX ht v h2 (fun m hm => hne m (by simp [hm]))⟩
/-- A pointer of the entry is written. -/
theorem NdAt.set {n : Nd} {B B' : List Nd} {h' j : Nat} {v : Value} (h : NdAt w base n B) (hj : j < 8) (h1 : ∀ i, i < 8 → i < h' → i ≠ j → i < n.h ∧ nxt i B' = nxt i B) (h2 : j < h' → nxt j B' = v) :
    NdAt (w.setCell ⟨n.b, 7 + j, none⟩ v) base ⟨n.b, h', n.k, n.a⟩ B' := by
  obtain ⟨cs, kv, g1, g2, g3, ⟨c1, c2, c3, c4, c5, c6⟩, g5, g6, g7⟩ := h
  have far : ∀ i, i < 7 → (cs.setIfInBounds (7 + j) v)[i]? = cs[i]? := fun i hi => by rw [Array.getElem?_setIfInBounds, if_neg (by omega)]
  refine ⟨cs.setIfInBounds (7 + j) v, kv, blk_put g1 (7 + j) v rfl, by simpa using g2, (far 0 (by omega)).trans g3, ⟨(far 1 (by omega)).trans c1, (far 2 (by omega)).trans c2, (far 3 (by omega)).trans c3, (far 4 (by omega)).trans c4, (far 5 (by omega)).trans c5, (far 6 (by omega)).trans c6⟩, fun i hi hih => ?_, own_move g6 (fun k hk => Below.heap_setCell _ _ _ _ ?_), g7⟩
  · by_cases hij : i = j
    · subst hij
      rw [Array.getElem?_setIfInBounds, if_pos rfl, if_pos (by omega), h2 hih]
    · rw [Array.getElem?_setIfInBounds, if_neg (by omega), g5 i hi (h1 i hi hih hij).1, (h1 i hi hih hij).2]
  · rintro rfl
    obtain ⟨cs2, hc⟩ := own_typed g6 _ hk
    rw [g1] at hc
    simp at hc
theorem nxt_other {i j : Nat} (hij : i ≠ j) (nb : Nat) (k : List Int) (a : Ag) (S : List Nd) : ∀ B : List Nd, nxt i (B ++ ⟨nb, j + 1, k, a⟩ :: S) = nxt i (B ++ ⟨nb, j, k, a⟩ :: S)
  | [] => by
    show (if i < j + 1 then ptr nb else nxt i S) = if i < j then ptr nb else nxt i S
    by_cases h : i < j
    · rw [if_pos h, if_pos (by omega)]
    · rw [if_neg h, if_neg (by omega)]
  | n :: t => by
    show (if i < n.h then ptr n.b else nxt i (t ++ _)) = if i < n.h then ptr n.b else nxt i (t ++ _)
    rw [nxt_other hij nb k a S t]
theorem nxt_before {i : Nat} {X Y : List Nd} : ∀ {B : List Nd}, (∃ m ∈ B, i < m.h) → nxt i (B ++ X) = nxt i (B ++ Y)
  | [], h => by obtain ⟨_, h, _⟩ := h; cases h
  | n :: t, h => by
    show (if i < n.h then ptr n.b else nxt i (t ++ X)) = if i < n.h then ptr n.b else nxt i (t ++ Y)
    by_cases hn : i < n.h
    · rw [if_pos hn, if_pos hn]
    · rw [if_neg hn, if_neg hn]
      obtain ⟨m, hm, hi⟩ := h
      rcases List.mem_cons.1 hm with rfl | hm
      · exact absurd hi hn
      · exact nxt_before ⟨m, hm, hi⟩
theorem prd_mem {i : Nat} : ∀ (B : List Nd) (L : Nat), (∃ m ∈ B, i < m.h) → ∃ m ∈ B, i < m.h ∧ prd L i B = m.b
  | [], _, h => by obtain ⟨_, h, _⟩ := h; cases h
  | n :: t, L, h => by
    by_cases ht : ∃ m ∈ t, i < m.h
    · obtain ⟨m, hm, hi, he⟩ := prd_mem t (if i < n.h then n.b else L) ht
      exact ⟨m, by simp [hm], hi, he⟩
    · have hlow : ∀ m ∈ t, m.h ≤ i := fun m hm => Nat.le_of_not_lt (fun hi => ht ⟨m, hm, hi⟩)
      have hn : i < n.h := by
        obtain ⟨m, hm, hi⟩ := h
        rcases List.mem_cons.1 hm with rfl | hm
        · exact hi
        · exact absurd ⟨m, hm, hi⟩ ht
      refine ⟨n, by simp, hn, ?_⟩
      unfold prd
      rw [prd_low _ hlow, if_pos hn]
theorem prd_same {j : Nat} : ∀ (B : List Nd) (u v : Nat), (∃ z ∈ B, j < z.h) → prd u j B = prd v j B
  | [], _, _, h => by obtain ⟨_, h, _⟩ := h; cases h
  | m :: B, u, v, h => by
    unfold prd
    by_cases hm : j < m.h
    · rw [if_pos hm, if_pos hm]
    · rw [if_neg hm, if_neg hm]
      refine prd_same B u v ?_
      obtain ⟨z, hz, hzi⟩ := h
      rcases List.mem_cons.1 hz with rfl | hz
      · exact absurd hzi hm
      · exact ⟨z, hz, hzi⟩
theorem low_or {i : Nat} (B : List Nd) : (∀ m ∈ B, m.h ≤ i) ∨ ∃ m ∈ B, i < m.h := by
  by_cases h : ∃ m ∈ B, i < m.h
  · exact .inr h
  · exact .inl fun m hm => Nat.le_of_not_lt fun hi => h ⟨m, hm, hi⟩
/-- What the tower's pointers mean, one level more. -/
theorem nxt_link {nb j : Nat} {k : List Int} {a : Ag} {B S : List Nd} : nxt j (B ++ ⟨nb, j + 1, k, a⟩ :: S) = if (∀ m ∈ B, m.h ≤ j) then ptr nb else nxt j (B ++ ⟨nb, j, k, a⟩ :: S) := by
  by_cases h : ∀ m ∈ B, m.h ≤ j
  · rw [if_pos h, nxt_low h]
    show (if j < j + 1 then ptr nb else _) = _
    rw [if_pos (by omega)]
  · rw [if_neg h]
    exact nxt_before ((low_or B).resolve_left h)
/-- The pointer behind the insertion on level j is q's. -/
theorem link_ns {nb j q : Nat} {k : List Int} {a : Ag} {S : List Nd} {t : TypeId} {cs : Array Value} (hj : j < 8) (hq : w.heap[q]? = some (.cells cs t (0, 0))) (ht : t ≠ 5) (hnb : nb ≠ q) (hS : ∀ m ∈ S, m.b ≠ q) (hnS : NdAt w base ⟨nb, j + 1, k, a⟩ S) (hSS : NsAt w base S) :
    ∀ (B : List Nd), NsAt w base (B ++ ⟨nb, j, k, a⟩ :: S) → (B.map Nd.b).Nodup → (∀ m ∈ B, m.b = q → prd q j B = m.b) → (∀ m ∈ B, m.b ≠ q → ∀ B1 B2, B = B1 ++ m :: B2 → j < m.h → ∃ x ∈ B2, j < x.h) →
      NsAt (w.setCell ⟨q, 7 + j, none⟩ (ptr nb)) base (B ++ ⟨nb, j + 1, k, a⟩ :: S)
  | [], _, _, _, _ => ⟨hnS.off hnb hq ht _, hSS.off hq ht _ hS⟩
  | n :: B, ⟨h1, h2⟩, hnd, hp, hb => by
    have ih := link_ns hj hq ht hnb hS hnS hSS B h2 (by simp at hnd; exact hnd.2)
    have hnd' : n.b ∉ B.map Nd.b := by simp at hnd ⊢; exact hnd.1
    have hrest : NsAt (w.setCell ⟨q, 7 + j, none⟩ (ptr nb)) base (B ++ ⟨nb, j + 1, k, a⟩ :: S) := by
      refine ih (fun m hm he => ?_) (fun m hm he B1 B2 hB => hb m (by simp [hm]) he (n :: B1) B2 (by rw [hB]; rfl))
      have h := hp m (by simp [hm]) he
      unfold prd at h
      split at h
      · rcases low_or (i := j) B with hl | hl
        · rw [prd_low _ hl] at h
          exact absurd (List.mem_map_of_mem (f := Nd.b) hm) (by rw [← h]; exact hnd')
        · obtain ⟨x, hx, hxi, hxe⟩ := prd_mem B n.b hl
          obtain ⟨y, hy, hyi, hye⟩ := prd_mem B q hl
          rw [hye]
          rw [hxe] at h
          -- both are the last towers of B
          have : prd n.b j B = prd q j B := prd_same B n.b q hl
          rw [← hye, ← this, hxe, h]
      · exact h
    refine ⟨?_, hrest⟩
    by_cases hnq : n.b = q
    · have hlow : j < n.h → ∀ m ∈ B, m.h ≤ j := by
        intro hjn
        rcases low_or (i := j) B with hl | hl
        · exact hl
        · exfalso
          have h := hp n (by simp) hnq
          unfold prd at h
          obtain ⟨x, hx, hxi, hxe⟩ := prd_mem B (if j < n.h then n.b else q) hl
          rw [hxe] at h
          exact hnd' (by rw [← h]; exact List.mem_map_of_mem hx)
      have := NdAt.set (B' := B ++ ⟨nb, j + 1, k, a⟩ :: S) (h' := n.h) (v := ptr nb) h1 hj (fun i hi hih hij => ⟨hih, nxt_other hij nb k a S B⟩) (fun hjh => by rw [nxt_link, if_pos (hlow hjh)])
      rw [hnq] at this
      have e : (⟨q, n.h, n.k, n.a⟩ : Nd) = n := by rw [← hnq]
      rw [e] at this
      exact this
    · have h3 := h1.off (o := 7 + j) hnq hq ht (ptr nb)
      obtain ⟨cs1, kv, g1, g2, g3, g4, g5, g6, g7⟩ := h3
      refine ⟨cs1, kv, g1, g2, g3, g4, fun i hi hih => ?_, g6, g7⟩
      rw [g5 i hi hih]
      by_cases hij : i = j
      · subst hij
        exact congrArg some (nxt_before (hb n (by simp) hnq [] B rfl hih))
      · exact congrArg some (nxt_other hij nb k a S B).symm
theorem nxt_zero {i nb : Nat} {k : List Int} {a : Ag} {S : List Nd} : ∀ (B : List Nd), nxt i (B ++ ⟨nb, 0, k, a⟩ :: S) = nxt i (B ++ S)
  | [] => by
    show (if i < 0 then ptr nb else nxt i S) = nxt i S
    rw [if_neg (by omega)]
  | n :: t => by
    show (if i < n.h then ptr n.b else nxt i (t ++ _)) = if i < n.h then ptr n.b else nxt i (t ++ _)
    rw [nxt_zero t]
theorem NsAt.ins0 {nb : Nat} {k : List Int} {a : Ag} {S : List Nd} (hn : NdAt w base ⟨nb, 0, k, a⟩ S) : ∀ {P : List Nd}, NsAt w base (P ++ S) → NsAt w base (P ++ ⟨nb, 0, k, a⟩ :: S)
  | [], h => ⟨hn, h⟩
  | n :: P, ⟨⟨cs, kv, g1, g2, g3, g4, g5, g6, g7⟩, h2⟩ => ⟨⟨cs, kv, g1, g2, g3, g4, fun i hi hih => (g5 i hi hih).trans (congrArg some (nxt_zero P).symm), g6, g7⟩, NsAt.ins0 hn h2⟩
theorem NsAt.right {S : List Nd} : ∀ {P : List Nd}, NsAt w base (P ++ S) → NsAt w base S
  | [], h => h
  | _ :: P, h => NsAt.right (P := P) h.2
theorem NsAt.mid {w1 : World} {n : Nd} {S : List Nd} (hn : NdAt w1 base n S) (hS : NsAt w1 base S) : ∀ {P : List Nd}, NsAt w base (P ++ n :: S) → (∀ m ∈ P, ∀ B, NdAt w base m B → NdAt w1 base m B) → NsAt w1 base (P ++ n :: S)
  | [], _, _ => ⟨hn, hS⟩
  | m :: P, ⟨h1, h2⟩, hm => ⟨hm m (by simp) _ h1, NsAt.mid hn hS h2 (fun x hx => hm x (by simp [hx]))⟩
theorem NsAt.typed {m : Nd} : ∀ {ns : List Nd}, NsAt w base ns → m ∈ ns → ∃ cs, w.heap[m.b]? = some (.cells cs 54 (0, 0))
  | [], _, h => by cases h
  | n :: t, ⟨⟨cs, _, h1, _⟩, h2⟩, h => by
    rcases List.mem_cons.1 h with rfl | h
    · exact ⟨cs, h1⟩
    · exact NsAt.typed h2 h
/-- A tower that is being put in: linked below level j. -/
structure SkM (fz : Bool) (w : World) (base L : Nat) (P S : List Nd) (nb j : Nat) (k : List Int) (a : Ag) (cnt : Int) : Prop where
  hd : HdAt fz w L (P ++ ⟨nb, j, k, a⟩ :: S) cnt
  Lb : True
  nodes : NsAt w base (P ++ ⟨nb, j, k, a⟩ :: S)
  nodup : ((P ++ S).map Nd.b).Nodup
  fresh : ∀ m ∈ P ++ S, m.b ≠ nb
theorem SkM.Lne {P S : List Nd} {nb j : Nat} {k : List Int} {a : Ag} {cnt : Int} (h : SkM fz w base L P S nb j k a cnt) {m : Nd} (hm : m ∈ P ++ ⟨nb, j, k, a⟩ :: S) : m.b ≠ L := by
  obtain ⟨cs, h1⟩ := h.nodes.typed hm
  obtain ⟨cs2, _, h2, _⟩ := h.hd
  intro e
  rw [e, h2] at h1
  simp at h1
/-- The last tower's pointer, and its block. -/
theorem SkM.prd_cell {P S : List Nd} {nb j : Nat} {k : List Int} {a : Ag} {cnt : Int} (h : SkM fz w base L P S nb j k a cnt) (hj : j < 8) :
    w.cell? ⟨prd L j P, 7 + j, none⟩ = some (nxt j S) ∧ (∃ cs t, w.heap[prd L j P]? = some (.cells cs t (0, 0)) ∧ (t = 54 ∨ t = 56)) ∧ prd L j P ≠ nb ∧ (∀ m ∈ S, m.b ≠ prd L j P) ∧ min base L ≤ prd L j P := by
  have hnj : nxt j (⟨nb, j, k, a⟩ :: S) = nxt j S := by
    show (if j < j then ptr nb else nxt j S) = _
    rw [if_neg (by omega)]
  rcases low_or (i := j) P with hl | hl
  · rw [prd_low _ hl]
    obtain ⟨cs, z, h1, _, h2, _⟩ := h.hd
    refine ⟨(cell_of_row w L _ cs _ (0, 0) h1).trans ((h2 j hj).trans (congrArg some (by rw [nxt_low hl, hnj]))), ⟨cs, _, h1, .inr rfl⟩, fun e => h.Lne (m := ⟨nb, j, k, a⟩) (by simp) e.symm, fun m hm => h.Lne (by simp [hm]), Nat.min_le_right _ _⟩
  · obtain ⟨m, hm, hi, he⟩ := prd_mem P L hl
    rw [he]
    obtain ⟨A, B, rfl⟩ := List.append_of_mem hm
    have hBlow : ∀ x ∈ B, x.h ≤ j := by
      rcases low_or (i := j) B with h1 | h1
      · exact h1
      · exfalso
        obtain ⟨y, hy, _, hye⟩ := prd_mem B (if j < m.h then m.b else prd L j A) h1
        rw [prd_append] at he
        have : m.b = y.b := he.symm.trans hye
        have hnd := h.nodup
        simp only [List.map_append, List.map_cons] at hnd
        rw [List.append_assoc, List.nodup_append] at hnd
        have hnd2 := hnd.2.1
        rw [List.cons_append, List.nodup_cons] at hnd2
        exact hnd2.1 (by rw [this]; exact List.mem_append_left _ (List.mem_map_of_mem hy))
    have hn := NsAt.at (A := A) (B := B ++ ⟨nb, j, k, a⟩ :: S) (n := m) (by have := h.nodes; simpa using this)
    obtain ⟨cs, kv, g1, _, _, _, g5, _, g7⟩ := hn
    refine ⟨(cell_of_row w m.b _ cs _ (0, 0) g1).trans ((g5 j hj hi).trans (congrArg some (by rw [nxt_low hBlow, hnj]))), ⟨cs, _, g1, .inl rfl⟩, h.fresh m (by simp), fun x hx e => ?_, Nat.le_trans (Nat.min_le_left _ _) g7⟩
    have hnd := h.nodup
    simp only [List.map_append, List.map_cons, List.append_assoc, List.cons_append] at hnd
    rw [List.nodup_append] at hnd
    have hnd2 := hnd.2.1
    rw [List.nodup_cons] at hnd2
    exact hnd2.1 (by rw [← e]; exact List.mem_append_right _ (List.mem_map_of_mem hx))
theorem SkM.step {P S : List Nd} {nb j : Nat} {k : List Int} {a : Ag} {cnt : Int} (h : SkM fz w base L P S nb j k a cnt) (hj : j < 8) :
    SkM fz ((w.setCell ⟨nb, 7 + j, none⟩ (nxt j S)).setCell ⟨prd L j P, 7 + j, none⟩ (ptr nb)) base L P S nb (j + 1) k a cnt := by
  obtain ⟨_, ⟨csq, tq, hq, htq⟩, hqn, hqS, _⟩ := h.prd_cell hj
  have hnj := NsAt.at (A := P) h.nodes
  have hLn : L ≠ nb := fun e => h.Lne (m := ⟨nb, j, k, a⟩) (by simp) e.symm
  have hSS := NsAt.right (P := [⟨nb, j, k, a⟩]) (NsAt.right (P := P) h.nodes)
  obtain ⟨csn, hcsn⟩ := h.nodes.typed (m := ⟨nb, j, k, a⟩) (by simp)
  have hPn : ∀ m ∈ P, m.b ≠ nb := fun m hm => h.fresh m (by simp [hm])
  have hSn : ∀ m ∈ S, m.b ≠ nb := fun m hm => h.fresh m (by simp [hm])
  have a1 : NdAt (w.setCell ⟨nb, 7 + j, none⟩ (nxt j S)) base ⟨nb, j + 1, k, a⟩ S := NdAt.set (h' := j + 1) hnj hj (fun i hi hih hij => ⟨(show i < j by omega), rfl⟩) (fun _ => rfl)
  have a0 : NdAt (w.setCell ⟨nb, 7 + j, none⟩ (nxt j S)) base ⟨nb, j, k, a⟩ S := NdAt.set (h' := j) hnj hj (fun i hi hih hij => ⟨hih, rfl⟩) (fun hh => absurd hh (by omega))
  have s1 := NsAt.off (o := 7 + j) hcsn (by decide) (nxt j S) hSS hSn
  have n1 : NsAt (w.setCell ⟨nb, 7 + j, none⟩ (nxt j S)) base (P ++ ⟨nb, j, k, a⟩ :: S) := NsAt.mid a0 s1 h.nodes (fun m hm B hB => hB.off (hPn m hm) hcsn (by decide) _)
  have hq1 : (w.setCell ⟨nb, 7 + j, none⟩ (nxt j S)).heap[prd L j P]? = some (.cells csq tq (0, 0)) := (Below.heap_setCell _ _ _ _ hqn).trans hq
  have htu : tq ≠ 5 := by rcases htq with rfl | rfl <;> decide
  have hndP : (P.map Nd.b).Nodup := by
    have := h.nodup
    rw [List.map_append, List.nodup_append] at this
    exact this.1
  refine ⟨?_, h.Lb, link_ns hj hq1 htu (Ne.symm hqn) hqS a1 s1 P n1 hndP (fun m hm he => ?_) (fun m hm he B1 B2 hB hjm => ?_), h.nodup, h.fresh⟩
  · obtain ⟨cs, z, h1, h2, h3, h4⟩ := h.hd
    have h1' : (w.setCell ⟨nb, 7 + j, none⟩ (nxt j S)).heap[L]? = some (.cells cs 56 (0, 0)) := (Below.heap_setCell _ _ _ _ hLn).trans h1
    by_cases hqL : prd L j P = L
    · have hlow : ∀ m ∈ P, m.h ≤ j := by
        rcases low_or (i := j) P with hl | hl
        · exact hl
        · obtain ⟨m, hm, _, he⟩ := prd_mem P L hl
          exact absurd (he.symm.trans hqL) (h.Lne (by simp [hm]))
      rw [hqL]
      refine ⟨cs.setIfInBounds (7 + j) (ptr nb), z, blk_put h1' (7 + j) _ rfl, by simpa using h2, fun i hi => ?_, ?_, ?_, ?_⟩
      · by_cases hij : i = j
        · subst hij
          rw [Array.getElem?_setIfInBounds, if_pos rfl, if_pos (by omega), nxt_link, if_pos hlow]
        · rw [Array.getElem?_setIfInBounds, if_neg (by omega), h3 i hi, nxt_other hij nb k a S P]
      · rw [Array.getElem?_setIfInBounds, if_neg (by omega)]; exact h4.1
      · rw [Array.getElem?_setIfInBounds, if_neg (by omega)]; exact h4.2.1
      · rw [Array.getElem?_setIfInBounds, if_neg (by omega)]; exact h4.2.2
    · refine ⟨cs, z, (Below.heap_setCell _ _ _ _ (Ne.symm hqL)).trans h1', h2, fun i hi => ?_, h4⟩
      rw [h3 i hi]
      by_cases hij : i = j
      · subst hij
        refine congrArg some (nxt_before ?_)
        rcases low_or (i := i) P with hl | hl
        · exact absurd (prd_low _ hl) hqL
        · exact hl
      · exact congrArg some (nxt_other hij nb k a S P).symm
  · rcases low_or (i := j) P with hl | hl
    · exact absurd (he.trans (prd_low _ hl)) (h.Lne (by simp [hm]))
    · rw [prd_same P (prd L j P) L hl]
      exact he.symm
  · rcases low_or (i := j) B2 with hl | hl
    · exfalso
      apply he
      rw [hB, prd_append]
      show m.b = prd (if j < m.h then m.b else _) j B2
      rw [if_pos hjm, prd_low _ hl]
    · exact hl
end
end Go.Proofs.Ythabkdbhjioalaa.Top
namespace Go.Proofs.Ythabkdbhjioalaa.Top
set_option linter.unusedSimpArgs false
set_option linter.unusedVariables false
open Go.RowKit Go.Proofs.YthabkdbhjioalaaW.PrintWords Go.Proofs.YthabkdbhjioalaaW.PrintLast Go.Proofs.YthabkdbhjioalaaW.PrintMore Go.Proofs.Ythabkdbhjioalaa.Plain
variable {fz : Bool}
def Nd.with (n : Nd) (a : Ag) : Nd := ⟨n.b, n.h, n.k, a⟩
theorem nxt_with (i : Nat) (n : Nd) (a : Ag) (S : List Nd) : ∀ P : List Nd, nxt i (P ++ n.with a :: S) = nxt i (P ++ n :: S)
  | [] => rfl
  | m :: P => by
    show (if i < m.h then ptr m.b else nxt i (P ++ _)) = if i < m.h then ptr m.b else nxt i (P ++ _)
    rw [nxt_with i n a S P]
section
variable {w w1 : World} {base L : Nat}
theorem NsAt.swap {n : Nd} {a : Ag} {S : List Nd} (hn : NdAt w1 base (n.with a) S) (hS : NsAt w1 base S) : ∀ {P : List Nd}, NsAt w base (P ++ n :: S) → (∀ m ∈ P, ∀ B, NdAt w base m B → NdAt w1 base m B) → NsAt w1 base (P ++ n.with a :: S)
  | [], _, _ => ⟨hn, hS⟩
  | m :: P, ⟨h1, h2⟩, hm => by
    refine ⟨?_, NsAt.swap hn hS h2 (fun x hx => hm x (by simp [hx]))⟩
    obtain ⟨cs, kv, g1, g2, g3, g4, g5, g6, g7⟩ := hm m (by simp) _ h1
    exact ⟨cs, kv, g1, g2, g3, g4, fun i hi hih => (g5 i hi hih).trans (congrArg some (nxt_with i n a S P).symm), g6, g7⟩
/-- The six cells of what is known are written. -/
def setAg (w : World) (g o : Nat) (a : Ag) : World := ((((((w.setCell ⟨g, o, none⟩ (.int .u64 a.c)).setCell ⟨g, o + 1, none⟩ (.bool a.o)).setCell ⟨g, o + 2, none⟩ (.int .i64 a.hi)).setCell ⟨g, o + 3, none⟩ (.int .u64 a.lo)).setCell ⟨g, o + 4, none⟩ (.int .i64 a.mn)).setCell ⟨g, o + 5, none⟩ (.int .i64 a.mx))
theorem setAg_far {g o k : Nat} {a : Ag} (hk : k ≠ g) : (setAg w g o a).heap[k]? = w.heap[k]? := by
  unfold setAg
  rw [Below.heap_setCell _ _ _ _ hk, Below.heap_setCell _ _ _ _ hk, Below.heap_setCell _ _ _ _ hk, Below.heap_setCell _ _ _ _ hk, Below.heap_setCell _ _ _ _ hk, Below.heap_setCell _ _ _ _ hk]
theorem setAg_blk {g o : Nat} {a : Ag} {t : TypeId} {cs : Array Value} (h : w.heap[g]? = some (.cells cs t (0, 0))) : (setAg w g o a).heap[g]? = some (.cells ((((((cs.setIfInBounds o (.int .u64 a.c)).setIfInBounds (o + 1) (.bool a.o)).setIfInBounds (o + 2) (.int .i64 a.hi)).setIfInBounds (o + 3) (.int .u64 a.lo)).setIfInBounds (o + 4) (.int .i64 a.mn)).setIfInBounds (o + 5) (.int .i64 a.mx)) t (0, 0)) :=
  blk_put (blk_put (blk_put (blk_put (blk_put (blk_put h o _ rfl) (o + 1) _ rfl) (o + 2) _ rfl) (o + 3) _ rfl) (o + 4) _ rfl) (o + 5) _ rfl
theorem setAg_below {B : Nat} {w0 : World} {g o : Nat} {a : Ag} (h : Below B w0 w) (hg : B ≤ g) : Below B w0 (setAg w g o a) :=
  (((((h.setCell (p := ⟨g, o, none⟩) hg _).setCell (p := ⟨g, o + 1, none⟩) hg _).setCell (p := ⟨g, o + 2, none⟩) hg _).setCell (p := ⟨g, o + 3, none⟩) hg _).setCell (p := ⟨g, o + 4, none⟩) hg _).setCell (p := ⟨g, o + 5, none⟩) hg _
theorem NdAt.agg {n : Nd} {a : Ag} {B : List Nd} (h : NdAt w base n B) : NdAt (setAg w n.b 1 a) base (n.with a) B := by
  obtain ⟨cs, kv, g1, g2, g3, g4, g5, g6, g7⟩ := h
  refine ⟨_, kv, setAg_blk g1, by simpa using g2, ?_, ⟨?_, ?_, ?_, ?_, ?_, ?_⟩, fun i hi hih => ?_, own_move g6 (fun k hk => setAg_far ?_), g7⟩
  · simp [Array.getElem?_setIfInBounds, g3]
  · simp [Array.getElem?_setIfInBounds, g2, Nd.with]
  · simp [Array.getElem?_setIfInBounds, g2, Nd.with]
  · simp [Array.getElem?_setIfInBounds, g2, Nd.with]
  · simp [Array.getElem?_setIfInBounds, g2, Nd.with]
  · simp [Array.getElem?_setIfInBounds, g2, Nd.with]
  · simp [Array.getElem?_setIfInBounds, g2, Nd.with]
  · rw [Array.getElem?_setIfInBounds, if_neg (by omega), Array.getElem?_setIfInBounds, if_neg (by omega), Array.getElem?_setIfInBounds, if_neg (by omega), Array.getElem?_setIfInBounds, if_neg (by omega), Array.getElem?_setIfInBounds, if_neg (by omega), Array.getElem?_setIfInBounds, if_neg (by omega)]
    exact g5 i hi hih
  · rintro rfl
    obtain ⟨cs2, hc⟩ := own_typed g6 _ hk
    rw [g1] at hc
    simp at hc
theorem NdAt.far {n : Nd} {B : List Nd} (h : NdAt w base n B) {X : Nat} (hf : ∀ k, k ≠ X → w1.heap[k]? = w.heap[k]?) (hne : n.b ≠ X) {t : TypeId} {cs : Array Value} (hX : w.heap[X]? = some (.cells cs t (0, 0))) (ht : t ≠ 5) : NdAt w1 base n B := by
  obtain ⟨cs1, kv, h1, h2, h3, h4, h5, h6, h7⟩ := h
  refine ⟨cs1, kv, (hf _ hne).trans h1, h2, h3, h4, h5, own_move h6 (fun k hk => hf _ ?_), h7⟩
  rintro rfl
  obtain ⟨cs2, hc⟩ := own_typed h6 _ hk
  rw [hX] at hc
  simp at hc
  exact ht hc.2
theorem NsAt.far {X : Nat} (hf : ∀ k, k ≠ X → w1.heap[k]? = w.heap[k]?) {t : TypeId} {cs : Array Value} (hX : w.heap[X]? = some (.cells cs t (0, 0))) (ht : t ≠ 5) : ∀ {ns : List Nd}, NsAt w base ns → (∀ n ∈ ns, n.b ≠ X) → NsAt w1 base ns
  | [], _, _ => trivial
  | n :: t', ⟨h1, h2⟩, hne => ⟨h1.far hf (hne n (by simp)) hX ht, NsAt.far hf hX ht h2 (fun m hm => hne m (by simp [hm]))⟩
theorem SkAt.agg {P S : List Nd} {n : Nd} {a : Ag} (h : SkAt fz w base L (P ++ n :: S)) : SkAt fz (setAg w n.b 1 a) base L (P ++ n.with a :: S) := by
  obtain ⟨cs, hcs⟩ := h.nodes.typed (m := n) (by simp)
  have hnd := h.nodup
  simp only [List.map_append, List.map_cons, List.nodup_append, List.nodup_cons] at hnd
  have hP : ∀ m ∈ P, m.b ≠ n.b := fun m hm e => hnd.2.2 m.b (List.mem_map_of_mem hm) n.b (by simp) e
  have hS : ∀ m ∈ S, m.b ≠ n.b := fun m hm e => hnd.2.1.1 (by rw [← e]; exact List.mem_map_of_mem hm)
  have hLn : L ≠ n.b := by
    obtain ⟨cs2, _, h2, _⟩ := h.hd
    rintro rfl
    rw [hcs] at h2
    simp at h2
  have far : ∀ k, k ≠ n.b → (setAg w n.b 1 a).heap[k]? = w.heap[k]? := fun k hk => setAg_far hk
  refine ⟨?_, h.Lb, NsAt.swap (NdAt.agg (NsAt.at h.nodes)) (NsAt.far far hcs (by decide) (NsAt.right (P := [n]) (NsAt.right (P := P) h.nodes)) hS) h.nodes (fun m hm B hB => hB.far far (hP m hm) hcs (by decide)), ?_, ?_, fun m hm => ?_, fun m hm => ?_⟩
  · obtain ⟨cs2, z, g1, g2, g3, g4⟩ := h.hd
    refine ⟨cs2, z, (far _ hLn).trans g1, g2, fun i hi => (g3 i hi).trans (congrArg some (nxt_with i n a S P).symm), ?_⟩
    simpa using g4
  · have := h.srt
    rw [List.pairwise_append, List.pairwise_cons] at this ⊢
    exact ⟨this.1, ⟨fun m hm => this.2.1.1 m hm, this.2.1.2⟩, fun x hx y hy => by
      rcases List.mem_cons.1 hy with rfl | hy
      · exact this.2.2 x hx n (by simp)
      · exact this.2.2 x hx y (by simp [hy])⟩
  · simpa [Nd.with] using h.nodup
  · rcases List.mem_append.1 hm with hm | hm
    · exact h.ky m (by simp [hm])
    · rcases List.mem_cons.1 hm with rfl | hm
      · exact h.ky n (by simp)
      · exact h.ky m (by simp [hm])
  · rcases List.mem_append.1 hm with hm | hm
    · exact h.ht m (by simp [hm])
    · rcases List.mem_cons.1 hm with rfl | hm
      · exact h.ht n (by simp)
      · exact h.ht m (by simp [hm])
/-- A tower that is linked on all its levels. -/
theorem SkM.done {P S : List Nd} {nb j : Nat} {k : List Int} {a : Ag} {ns : List Nd} (h : SkM fz w base L P S nb j k a (ns.length + 1 : Nat)) (hns : ns = P ++ S) (h0 : SkAt fz w1 base L (P ++ S)) (hj1 : 1 ≤ j) (hj8 : j ≤ 8) (hk : Byt k ∧ 0 < k.length ∧ k.length ≤ 256)
    (hP : ∀ n ∈ P, lts n.k k = true) (hS : ∀ n ∈ S, lts k n.k = true) : SkAt fz w base L (P ++ ⟨nb, j, k, a⟩ :: S) := by
  subst hns
  refine ⟨?_, h.Lb, h.nodes, ?_, ?_, fun m hm => ?_, fun m hm => ?_⟩
  · have := h.hd
    have e : ((P ++ ⟨nb, j, k, a⟩ :: S).length : Int) = (((P ++ S).length + 1 : Nat) : Int) := by simp; omega
    rw [e]
    exact this
  · have := h0.srt
    rw [List.pairwise_append] at this
    rw [List.pairwise_append, List.pairwise_cons]
    exact ⟨this.1, ⟨hS, this.2.1⟩, fun x hx y hy => by
      rcases List.mem_cons.1 hy with rfl | hy
      · exact hP x hx
      · exact this.2.2 x hx y hy⟩
  · have h1 := h.nodup
    simp only [List.map_append, List.nodup_append] at h1
    simp only [List.map_append, List.map_cons, List.nodup_append, List.nodup_cons]
    refine ⟨h1.1, ⟨fun hm => ?_, h1.2.1⟩, fun x hx y hy => ?_⟩
    · obtain ⟨m, hm, e⟩ := List.mem_map.1 hm
      exact h.fresh m (by simp [hm]) e
    · rcases List.mem_cons.1 hy with rfl | hy
      · obtain ⟨m, hm, e⟩ := List.mem_map.1 hx
        rw [← e]
        exact h.fresh m (by simp [hm])
      · exact h1.2.2 x hx y hy
  · rcases List.mem_append.1 hm with hm | hm
    · exact h0.ky m (by simp [hm])
    · rcases List.mem_cons.1 hm with rfl | hm
      · exact hk
      · exact h0.ky m (by simp [hm])
  · rcases List.mem_append.1 hm with hm | hm
    · exact h0.ht m (by simp [hm])
    · rcases List.mem_cons.1 hm with rfl | hm
      · exact ⟨hj1, hj8⟩
      · exact h0.ht m (by simp [hm])
end
end Go.Proofs.Ythabkdbhjioalaa.Top
