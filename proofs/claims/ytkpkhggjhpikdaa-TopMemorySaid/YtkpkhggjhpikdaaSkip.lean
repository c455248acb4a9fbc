/-
  A list of towers in memory: what it holds, and what lies behind each tower on each level; conditions: those that each theorem states.
-/
import Derived.Test.YtkpkhggjhpikdaaMany
import Derived.Test.YtkpkhggjhpikdaaBytes
namespace Go.Proofs.Ytkpkhggjhpikdaa.Top
set_option linter.unusedSimpArgs false
set_option linter.unusedVariables false
open Go.RowKit Go.Proofs.YtkpkhggjhpikdaaW.PrintWords Go.Proofs.YtkpkhggjhpikdaaW.PrintLast Go.Proofs.YtkpkhggjhpikdaaW.PrintMore Go.Proofs.Ytkpkhggjhpikdaa.Plain
/-- An entry in memory: its block, its tower's height, its key, what is known. -/
structure Nd where
  b : Nat
  h : Nat
  k : List Int
  a : Ag
def ptr (b : Nat) : Value := .pointer (some ⟨b, 0, none⟩)
/-- The next tower on level i. -/
def nxt (i : Nat) : List Nd → Value
  | [] => .pointer none
  | n :: t => if i < n.h then ptr n.b else nxt i t
/-- The last tower on level i, or L. -/
def prd (L i : Nat) : List Nd → Nat
  | [] => L
  | n :: t => prd (if i < n.h then n.b else L) i t
theorem prd_append (i : Nat) : ∀ (A B : List Nd) (L : Nat), prd L i (A ++ B) = prd (prd L i A) i B
  | [], _, _ => rfl
  | n :: t, B, L => prd_append i t B _
theorem prd_low {i : Nat} : ∀ {B : List Nd} (L : Nat), (∀ n ∈ B, n.h ≤ i) → prd L i B = L
  | [], _, _ => rfl
  | n :: t, L, h => by
    have h1 := h n (by simp)
    unfold prd
    rw [if_neg (by omega)]
    exact prd_low L (fun m hm => h m (by simp [hm]))
theorem nxt_low {i : Nat} : ∀ {C D : List Nd}, (∀ n ∈ C, n.h ≤ i) → nxt i (C ++ D) = nxt i D
  | [], _, _ => rfl
  | n :: t, D, h => by
    have h1 := h n (by simp)
    show (if i < n.h then ptr n.b else nxt i (t ++ D)) = _
    rw [if_neg (by omega)]
    exact nxt_low (fun m hm => h m (by simp [hm]))
theorem nxt_cases (i : Nat) : ∀ (B : List Nd), (nxt i B = .pointer none ∧ ∀ n ∈ B, n.h ≤ i) ∨ ∃ C n D, B = C ++ n :: D ∧ (∀ m ∈ C, m.h ≤ i) ∧ i < n.h ∧ nxt i B = ptr n.b
  | [] => .inl ⟨rfl, fun _ h => by cases h⟩
  | n :: t => by
    by_cases hn : i < n.h
    · exact .inr ⟨[], n, t, rfl, (fun _ h => by cases h), hn, if_pos hn⟩
    · rcases nxt_cases i t with ⟨h1, h2⟩ | ⟨C, m, D, rfl, h2, h3, h4⟩
      · refine .inl ⟨by unfold nxt; rw [if_neg hn]; exact h1, fun m hm => ?_⟩
        rcases List.mem_cons.1 hm with rfl | hm
        · omega
        · exact h2 m hm
      · refine .inr ⟨n :: C, m, D, rfl, fun x hx => ?_, h3, by unfold nxt; rw [if_neg hn]; exact h4⟩
        rcases List.mem_cons.1 hx with rfl | hx
        · omega
        · exact h2 x hx
/-- One entry, B behind it. -/
def NdAt (w : World) (base : Nat) (n : Nd) (B : List Nd) : Prop := ∃ cs kv, w.heap[n.b]? = some (.cells cs 61 (0, 0)) ∧ cs.size = 15 ∧ cs[0]? = some kv ∧
  (cs[1]? = some (.int .u64 n.a.c) ∧ cs[2]? = some (.bool n.a.o) ∧ cs[3]? = some (.int .i64 n.a.hi) ∧ cs[4]? = some (.int .u64 n.a.lo) ∧ cs[5]? = some (.int .i64 n.a.mn) ∧ cs[6]? = some (.int .i64 n.a.mx)) ∧
  (∀ i, i < 8 → i < n.h → cs[7 + i]? = some (nxt i B)) ∧ w.ownsRow base 5 1 kv n.k.length (nums .u8 n.k) ∧ base ≤ n.b
def NsAt (w : World) (base : Nat) : List Nd → Prop
  | [] => True
  | n :: t => NdAt w base n t ∧ NsAt w base t
/-- The list's own block. -/
def HdAt (w : World) (L : Nat) (ns : List Nd) (cnt : Int) : Prop := ∃ cs z, w.heap[L]? = some (.cells cs 63 (0, 0)) ∧ cs.size = 18 ∧ (∀ i, i < 8 → cs[7 + i]? = some (nxt i ns)) ∧ cs[15]? = some (.int .i64 cnt) ∧ cs[16]? = some (.int .i64 z) ∧ cs[17]? = some (.bool false)
structure SkAt (w : World) (base L : Nat) (ns : List Nd) : Prop where
  hd : HdAt w L ns ns.length
  Lb : True
  nodes : NsAt w base ns
  srt : ns.Pairwise (fun m n => lts m.k n.k = true)
  nodup : (ns.map Nd.b).Nodup
  ky : ∀ n ∈ ns, Byt n.k ∧ 0 < n.k.length ∧ n.k.length ≤ 200
  ht : ∀ n ∈ ns, 1 ≤ n.h ∧ n.h ≤ 8
theorem NsAt.at {w : World} {base : Nat} : ∀ {A B : List Nd} {n : Nd}, NsAt w base (A ++ n :: B) → NdAt w base n B
  | [], _, _, h => h.1
  | _ :: A, _, _, h => NsAt.at (A := A) h.2
/-- Where a search stands: behind A, on level lev. -/
def Pos (L lev : Nat) (A : List Nd) (p : Nat) : Prop := (A = [] ∧ p = L) ∨ ∃ A' n, A = A' ++ [n] ∧ p = n.b ∧ lev < n.h
theorem SkAt.next {w : World} {base L lev p : Nat} {A B : List Nd} (h : SkAt w base L (A ++ B)) (hp : Pos L lev A p) (hl : lev < 8) : w.cell? ⟨p, 7 + lev, none⟩ = some (nxt lev B) := by
  rcases hp with ⟨rfl, rfl⟩ | ⟨A', n, rfl, rfl, hn⟩
  · obtain ⟨cs, z, h1, _, h2, _⟩ := h.hd
    exact (cell_of_row w p _ cs _ (0, 0) h1).trans (h2 lev hl)
  · have hn' := NsAt.at (A := A') (B := B) (n := n) (by have := h.nodes; simpa using this)
    obtain ⟨cs, kv, h1, _, _, _, h2, _⟩ := hn'
    exact (cell_of_row w n.b _ cs _ (0, 0) h1).trans (h2 lev hl hn)
theorem NsAt.move {w w1 : World} {base : Nat} : ∀ {ns : List Nd}, NsAt w base ns → (∀ (k : Nat) (cs : Array Value) (e : TypeId), w.heap[k]? = some (Obj.cells cs e (0, 0)) → e = 61 ∨ e = 5 → w1.heap[k]? = w.heap[k]?) → NsAt w1 base ns
  | [], _, _ => trivial
  | n :: t, ⟨⟨cs, kv, h1, h2, h3, h4, h5, h6, h7⟩, ht⟩, hm => by
    refine ⟨⟨cs, kv, (hm _ _ _ h1 (.inl rfl)).trans h1, h2, h3, h4, h5, own_move h6 (fun k hk => ?_), h7⟩, ht.move hm⟩
    obtain ⟨cs, hc⟩ := own_typed h6 k hk
    exact hm _ _ _ hc (.inr rfl)
/-- What holds blocks of entries, of bytes and of lists keeps the list. -/
theorem SkAt.move {w w1 : World} {base L : Nat} {ns : List Nd} (h : SkAt w base L ns) (hm : ∀ (k : Nat) (cs : Array Value) (e : TypeId), w.heap[k]? = some (Obj.cells cs e (0, 0)) → e = 61 ∨ e = 5 ∨ e = 63 → w1.heap[k]? = w.heap[k]?) : SkAt w1 base L ns := by
  obtain ⟨cs, z, h1, h2⟩ := h.hd
  exact ⟨⟨cs, z, (hm _ _ _ h1 (.inr (.inr rfl))).trans h1, h2⟩, h.Lb, h.nodes.move (fun k cs e hk he => hm k cs e hk (he.elim .inl (fun x => .inr (.inl x)))), h.srt, h.nodup, h.ky, h.ht⟩
theorem SkAt.below {w w1 : World} {base L : Nat} {ns : List Nd} (h : SkAt w base L ns) (hb : Below w.heap.size w w1) : SkAt w1 base L ns := h.move fun k cs e hk _ => hb.block k (blk_lt hk)
theorem own_rdb {w : World} {base : Nat} {v : Value} {k : List Int} (h : w.ownsRow base 5 1 v k.length (nums .u8 k)) : ∃ A c, v = .slice A k.length c ∧ RdB w A k ∧ k.length ≤ c := by
  have hR : (Kd.int .u8).R 5 w base (fun _ => True) v k := Kd.R_of_own h (fun _ _ => trivial)
  obtain ⟨A, c, rfl, hl, hc⟩ := Kd.R_reads hR
  exact ⟨A, c, rfl, hc, hl⟩
theorem SkAt.key {w : World} {base L : Nat} {A B : List Nd} {n : Nd} (h : SkAt w base L (A ++ n :: B)) : ∃ Ak c, w.cell? ⟨n.b, 0, none⟩ = some (.slice Ak n.k.length c) ∧ RdB w Ak n.k ∧ n.k.length ≤ c := by
  obtain ⟨cs, kv, h1, _, h3, _, _, h6, _⟩ := NsAt.at h.nodes
  obtain ⟨A, c, rfl, hc, hl⟩ := own_rdb h6
  exact ⟨A, c, (cell_of_row w n.b _ cs _ (0, 0) h1).trans h3, hc, hl⟩
end Go.Proofs.Ytkpkhggjhpikdaa.Top
