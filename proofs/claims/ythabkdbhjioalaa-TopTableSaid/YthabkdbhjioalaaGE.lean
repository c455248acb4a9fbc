/-
  The contract of the list's Put; conditions: those that each theorem states.
-/
import Derived.Test.YthabkdbhjioalaaGD
import Derived.BigRegion
import Derived.BigQuiet
import Derived.Deep.RegionWith
namespace Go.Proofs.Ythabkdbhjioalaa.Top
set_option linter.unusedSimpArgs false
set_option linter.unusedVariables false
open Go.RowKit Go.Proofs.YthabkdbhjioalaaW.PrintWords Go.Proofs.YthabkdbhjioalaaW.PrintLast Go.Proofs.YthabkdbhjioalaaW.PrintMore Go.Proofs.Ythabkdbhjioalaa.Plain
/-- An entry as a value. -/
def entV (A : Option Addr) (n c : Nat) (a : Ag) : Value := .agg #[.slice A n c, .int .u64 a.c, .bool a.o, .int .i64 a.hi, .int .u64 a.lo, .int .i64 a.mn, .int .i64 a.mx]
/-- What a list holds. -/
def cont (ns : List Nd) : List (List Int × Ag) := ns.map fun n => (n.k, n.a)
/-- One more fact. -/
def insF : List (List Int × Ag) → List Int → Ag → List (List Int × Ag)
  | [], k, a => [(k, a)]
  | (k', a') :: t, k, a => if lts k' k = true then (k', a') :: insF t k a else if k' = k then (k', mergeF a' a) :: t else (k, a) :: (k', a') :: t
theorem insF_front {k : List Int} {a : Ag} {S : List (List Int × Ag)} : ∀ {P : List Nd}, (∀ n ∈ P, lts n.k k = true) → insF (cont P ++ S) k a = cont P ++ insF S k a
  | [], _ => rfl
  | n :: P, h => by
    show (if lts n.k k = true then (n.k, n.a) :: insF (cont P ++ S) k a else _) = (n.k, n.a) :: (cont P ++ insF S k a)
    rw [if_pos (h n (by simp)), insF_front (P := P) (fun m hm => h m (by simp [hm]))]
theorem ltsT : ∀ (x y z : List Int), lts x y = true → lts y z = true → lts x z = true
  | x, [], _, h, _ => by cases x <;> simp [lts] at h
  | _, y :: ys, [], _, h => by simp [lts] at h
  | [], y :: ys, z :: zs, _, _ => rfl
  | a :: x, b :: y, c :: z, h, h' => by
    simp only [lts, Bool.or_eq_true, Bool.and_eq_true, decide_eq_true_eq] at h h' ⊢
    rcases h with h | ⟨rfl, h⟩
    · rcases h' with h' | ⟨rfl, h'⟩
      · exact .inl (by omega)
      · exact .inl h
    · rcases h' with h' | ⟨rfl, h'⟩
      · exact .inl h'
      · exact .inr ⟨rfl, ltsT x y z h h'⟩
/-- A list parted at a key. -/
theorem part (k : List Int) : ∀ (ns : List Nd), ns.Pairwise (fun m n => lts m.k n.k = true) → ∃ P S, ns = P ++ S ∧ (∀ n ∈ P, lts n.k k = true) ∧ (∀ n ∈ S, lts n.k k = false)
  | [], _ => ⟨[], [], rfl, (fun _ h => by cases h), (fun _ h => by cases h)⟩
  | n :: t, h => by
    rw [List.pairwise_cons] at h
    obtain ⟨P, S, rfl, hP, hS⟩ := part k t h.2
    by_cases hn : lts n.k k = true
    · exact ⟨n :: P, S, rfl, (fun m hm => by rcases List.mem_cons.1 hm with rfl | hm; exact hn; exact hP m hm), hS⟩
    · refine ⟨[], n :: (P ++ S), rfl, fun _ h => (by cases h), fun m hm => ?_⟩
      have hn' : lts n.k k = false := by simpa using hn
      rcases List.mem_cons.1 hm with rfl | hm
      · exact hn'
      · cases hmk : lts m.k k
        · rfl
        · have := ltsT _ _ _ (h.1 m hm) hmk
          rw [hn'] at this
          cases this
theorem prd_split (L i : Nat) (P : List Nd) : ∃ A B, P = A ++ B ∧ Pos L i A (prd L i P) ∧ ∀ n ∈ B, n.h ≤ i := by
  have : ∀ (R : List Nd), ∃ A B, R.reverse = A ++ B ∧ Pos L i A (prd L i R.reverse) ∧ ∀ n ∈ B, n.h ≤ i := by
    intro R
    induction R with
    | nil => exact ⟨[], [], rfl, .inl ⟨rfl, rfl⟩, fun _ h => by cases h⟩
    | cons n R ih =>
      rw [List.reverse_cons]
      by_cases hn : i < n.h
      · refine ⟨R.reverse ++ [n], [], by simp, .inr ⟨R.reverse, n, rfl, ?_, hn⟩, fun _ h => by cases h⟩
        rw [prd_append]
        show (if i < n.h then n.b else _) = n.b
        rw [if_pos hn]
      · obtain ⟨A, B, h1, h2, h3⟩ := ih
        refine ⟨A, B ++ [n], by rw [h1, List.append_assoc], ?_, fun m hm => ?_⟩
        · rw [prd_append]
          show Pos L i A (if i < n.h then n.b else _)
          rw [if_neg hn]
          exact h2
        · rcases List.mem_append.1 hm with hm | hm
          · exact h3 m hm
          · simp at hm; subst hm; omega
  have h := this P.reverse
  rwa [List.reverse_reverse] at h
theorem SkAt.pnext {fz : Bool} {w : World} {base L i : Nat} {P S : List Nd} (h : SkAt fz w base L (P ++ S)) (hi : i < 8) : w.cell? ⟨prd L i P, 7 + i, none⟩ = some (nxt i S) := by
  obtain ⟨A, B, hP, hp, hB⟩ := prd_split L i P
  generalize prd L i P = p at hp ⊢
  subst hP
  rw [List.append_assoc] at h
  rw [h.next hp hi, nxt_low hB]
theorem RdB.drewN {w : World} {A : Option Addr} {l : List Int} (h : RdB w A l) (n : Nat) : RdB (w.drewN n) A l := Kd.C_drewN h n
theorem equal_c {w : World} {A B : Option Addr} {c d : Nat} {k l : List Int} (hk : RdB w A k) (hl : RdB w B l) (hc : k.length ≤ c) (hd : l.length ≤ d) (bk : Byt k) (bl : Byt l) {r : Bool} (hr : r = decide (k = l)) :
    Calls Try.prog 23 #[.slice A k.length c, .slice B l.length d] w fun e w' => e = .returned (.bool r) ∧ ∃ m, w' = w.drewN m := by
  refine (Lib.bytes_Equal.calls A c k B d l r w hk hc hl hd ?_).mono fun e w' ⟨he, hd⟩ => ⟨he, hd.out⟩
  subst hr
  show some _ = some _
  congr 1
  rw [Bool.eq_iff_iff, beq_iff_eq, decide_eq_true_iff]
  constructor
  · intro h
    exact (strOfNums_inj bk bl).1 (ByteArray.ext (by
      have := congrArg List.length h
      rw [toList_data, toList_data] at h
      exact Array.ext' h))
  · rintro rfl
    rfl
/-- Entries and lists alone may have turned. -/
def Gs (w w' : World) : Prop := w.heap.size ≤ w'.heap.size ∧ ∀ (b : Nat) (o : Obj), w.heap[b]? = some o → (∀ cs, o ≠ .cells cs 54 (0, 0)) → (∀ cs, o ≠ .cells cs 56 (0, 0)) → w'.heap[b]? = some o
theorem Gs.of_below {w w' : World} (h : Below w.heap.size w w') : Gs w w' := ⟨h.size, fun b o hb _ _ => (h.block b (blk_lt hb)).trans hb⟩
theorem Gs.trans {w w1 w2 : World} (h : Gs w w1) (h' : Gs w1 w2) : Gs w w2 := ⟨Nat.le_trans h.1 h'.1, fun b o hb h1 h2 => h'.2 b o (h.2 b o hb h1 h2) h1 h2⟩
theorem Gs.far {w w1 : World} {X : Nat} {cs : Array Value} {t : TypeId} (hf : ∀ k, k ≠ X → w1.heap[k]? = w.heap[k]?) (hs : w.heap.size ≤ w1.heap.size) (hX : w.heap[X]? = some (.cells cs t (0, 0))) (ht : t = 54 ∨ t = 56) : Gs w w1 :=
  ⟨hs, fun b o hb h1 h2 => by
    refine (hf b ?_).trans hb
    rintro rfl
    rw [hX] at hb
    rcases ht with rfl | rfl
    · exact h1 _ (Option.some.inj hb).symm
    · exact h2 _ (Option.some.inj hb).symm⟩
def PutTo (w : World) (base L : Nat) (ns : List Nd) (k : List Int) (av : Ag) (e : Ending) (w' : World) : Prop := ∃ ns', e = .returned (.int .i64 0) ∧ SkAt false w' base L ns' ∧ cont ns' = insF (cont ns) k av ∧ ((∀ n ∈ ns, Gd n.a) → ∀ n ∈ ns', Gd n.a) ∧ ns'.length ≤ ns.length + 1 ∧ Gs w w' ∧ Below (min base L) w w'
theorem ins_merge {k : List Int} {a : Ag} {P S : List Nd} {s : Nd} (hP : ∀ n ∈ P, lts n.k k = true) (hs : lts s.k k = false) (he : s.k = k) : cont (P ++ s.with (mergeF s.a a) :: S) = insF (cont (P ++ s :: S)) k a := by
  have : cont (P ++ s :: S) = cont P ++ ((s.k, s.a) :: cont S) := by simp [cont]
  rw [this, insF_front hP]
  show cont (P ++ _) = cont P ++ (if lts s.k k = true then _ else if s.k = k then (s.k, mergeF s.a a) :: cont S else _)
  rw [hs, if_neg (by simp), if_pos he]
  simp [cont, Nd.with]
theorem put_merge {w w6 : World} {base L : Nat} {k : List Int} {av : Ag} {P S : List Nd} {s : Nd} (h : SkAt false w6 base L (P ++ s :: S)) (hB : Below w.heap.size w w6) (hbase : base ≤ w.heap.size) (hP : ∀ n ∈ P, lts n.k k = true) (hS : ∀ n ∈ s :: S, lts n.k k = false) (he : s.k = k)
    (hv : Gd av) : PutTo w base L (P ++ s :: S) k av (.returned (.int .i64 0)) (setAg w6 s.b 1 (mergeF s.a (av))) := by
  obtain ⟨cs, hcs⟩ := h.nodes.typed (m := s) (by simp)
  obtain ⟨_, _, _, _, _, _, _, _, hsb⟩ := NsAt.at h.nodes
  refine ⟨_, rfl, h.agg, ins_merge hP (hS s (by simp)) he, fun hf n hn => ?_, by simp, (Gs.of_below hB).trans (Gs.far (fun k hk => setAg_far hk) (by simp [setAg, World.setCell]) hcs (.inl rfl)), setAg_below (hB.mono (Nat.le_trans (Nat.min_le_left _ _) hbase)) (Nat.le_trans (Nat.min_le_left _ _) hsb)⟩
  rcases List.mem_append.1 hn with hn | hn
  · exact hf n (by simp [hn])
  · rcases List.mem_cons.1 hn with rfl | hn
    · exact (hf s (by simp)).merge hv
    · exact hf n (by simp [hn])
theorem eight_get (L : Nat) (P : List Nd) (j : Nat) (hj : j < 8) : (Eight L P)[j]? = some (ptr (prd L j P)) := by
  rcases (by omega : j = 0 ∨ j = 1 ∨ j = 2 ∨ j = 3 ∨ j = 4 ∨ j = 5 ∨ j = 6 ∨ j = 7) with rfl | rfl | rfl | rfl | rfl | rfl | rfl | rfl <;> rfl
section
variable {w w1 : World} {base L nb j : Nat} {P S : List Nd} {k : List Int} {a : Ag} {cnt : Int}
theorem SkM.setL (h : SkM false w base L P S nb j k a cnt) (c' : Int) : SkM false (w.setCell ⟨L, 15, none⟩ (.int .i64 c')) base L P S nb j k a c' := by
  obtain ⟨cs, z, h1, h2, h3, h4, h5, h6⟩ := h.hd
  refine ⟨⟨cs.setIfInBounds 15 (.int .i64 c'), z, blk_put h1 15 _ rfl, by simpa using h2, fun i hi => ?_, ?_, ?_, ?_⟩, h.Lb, NsAt.off h1 (by decide) _ h.nodes (fun m hm => h.Lne hm), h.nodup, h.fresh⟩
  · rw [Array.getElem?_setIfInBounds, if_neg (by omega)]; exact h3 i hi
  · rw [Array.getElem?_setIfInBounds, if_pos rfl, if_pos (by omega)]
  · rw [Array.getElem?_setIfInBounds, if_neg (by omega)]; exact h5
  · rw [Array.getElem?_setIfInBounds, if_neg (by omega)]; exact h6
theorem SkM.setZ (h : SkM false w base L P S nb j k a cnt) (z' : Int) : SkM false (w.setCell ⟨L, 16, none⟩ (.int .i64 z')) base L P S nb j k a cnt := by
  obtain ⟨cs, z, h1, h2, h3, h4, h5, h6⟩ := h.hd
  refine ⟨⟨cs.setIfInBounds 16 (.int .i64 z'), z', blk_put h1 16 _ rfl, by simpa using h2, fun i hi => ?_, ?_, ?_, ?_⟩, h.Lb, NsAt.off h1 (by decide) _ h.nodes (fun m hm => h.Lne hm), h.nodup, h.fresh⟩
  · rw [Array.getElem?_setIfInBounds, if_neg (by omega)]; exact h3 i hi
  · rw [Array.getElem?_setIfInBounds, if_neg (by omega)]; exact h4
  · rw [Array.getElem?_setIfInBounds, if_pos rfl, if_pos (by omega)]
  · rw [Array.getElem?_setIfInBounds, if_neg (by omega)]; exact h6
theorem SkM.move (h : SkM false w base L P S nb j k a cnt) (hm : ∀ (k : Nat) (cs : Array Value) (e : TypeId), w.heap[k]? = some (Obj.cells cs e (0, 0)) → e = 54 ∨ e = 5 ∨ e = 56 → w1.heap[k]? = w.heap[k]?) : SkM false w1 base L P S nb j k a cnt := by
  obtain ⟨cs, z, h1, h2⟩ := h.hd
  exact ⟨⟨cs, z, (hm _ _ _ h1 (.inr (.inr rfl))).trans h1, h2⟩, h.Lb, h.nodes.move (fun k cs e hk he => hm k cs e hk (he.elim .inl (fun x => .inr (.inl x)))), h.nodup, h.fresh⟩
/-- A tower is laid, linked nowhere. -/
theorem SkM.start (h : SkAt false w base L (P ++ S)) (hw : ∀ k, k < w.heap.size → w1.heap[k]? = w.heap[k]?) {kv : Value} (hnb : w.heap.size ≤ nb) (hbase : base ≤ w.heap.size)
    (hn : w1.heap[nb]? = some (.cells #[kv, .int .u64 a.c, .bool a.o, .int .i64 a.hi, .int .u64 a.lo, .int .i64 a.mn, .int .i64 a.mx, .pointer none, .pointer none, .pointer none, .pointer none, .pointer none, .pointer none, .pointer none, .pointer none] 54 (0, 0)))
    (ho : w1.ownsRow base 5 1 kv k.length (nums .u8 k)) : SkM false w1 base L P S nb 0 k a (P ++ S).length := by
  have hmv : ∀ (k : Nat) (cs : Array Value) (e : TypeId), w.heap[k]? = some (Obj.cells cs e (0, 0)) → w1.heap[k]? = w.heap[k]? := fun k cs e hk => hw k (blk_lt hk)
  have h1 := h.nodes.move (w1 := w1) (fun k cs e hk _ => hmv k cs e hk)
  have hnd : NdAt w1 base ⟨nb, 0, k, a⟩ S := ⟨_, kv, hn, rfl, rfl, ⟨rfl, rfl, rfl, rfl, rfl, rfl⟩, fun i _ hi => absurd hi (by simp), ho, Nat.le_trans hbase hnb⟩
  obtain ⟨cs, z, g1, g2, g3, g4⟩ := h.hd
  refine ⟨⟨cs, z, (hw _ (blk_lt g1)).trans g1, g2, fun i hi => (g3 i hi).trans (congrArg some (nxt_zero P).symm), g4⟩, h.Lb, NsAt.ins0 hnd h1, h.nodup, fun m hm e => ?_⟩
  obtain ⟨cs2, hc⟩ := h.nodes.typed hm
  have := blk_lt hc
  omega
end
theorem own_low {w : World} {B B' : Nat} {e : TypeId} {size n : Nat} {v : Value} {xs : List Value} (h : w.ownsRow B' e size v n xs) (hB : B ≤ B') : w.ownsRow B e size v n xs := by
  refine ⟨h.1, ?_⟩
  rcases h.2 with h' | ⟨g, cap, cur, hv, hb, r⟩
  · exact .inl h'
  · exact .inr ⟨g, cap, cur, hv, Nat.le_trans hB hb, r⟩
theorem nxt_ptr (i : Nat) : ∀ S : List Nd, ∃ p, nxt i S = .pointer p
  | [] => ⟨_, rfl⟩
  | n :: t => by
    unfold nxt
    split
    · exact ⟨_, rfl⟩
    · exact nxt_ptr i t
theorem SkM.step_gs {w : World} {base L nb j : Nat} {P S : List Nd} {k : List Int} {a : Ag} {cnt : Int} (h : SkM false w base L P S nb j k a cnt) (hj : j < 8) :
    Gs w ((w.setCell ⟨nb, 7 + j, none⟩ (nxt j S)).setCell ⟨prd L j P, 7 + j, none⟩ (ptr nb)) ∧ Below (min base L) w ((w.setCell ⟨nb, 7 + j, none⟩ (nxt j S)).setCell ⟨prd L j P, 7 + j, none⟩ (ptr nb)) := by
  obtain ⟨_, ⟨csq, tq, hq, htq⟩, hqn, hqS, hqb⟩ := h.prd_cell hj
  obtain ⟨csn, hcsn⟩ := h.nodes.typed (m := ⟨nb, j, k, a⟩) (by simp)
  obtain ⟨_, _, _, _, _, _, _, _, hnb⟩ := NsAt.at h.nodes
  refine ⟨(Gs.far (X := nb) (fun k hk => Below.heap_setCell _ _ _ _ hk) (by simp [World.setCell]) hcsn (.inl rfl)).trans (Gs.far (X := prd L j P) (fun k hk => Below.heap_setCell _ _ _ _ hk) (by simp [World.setCell]) ((Below.heap_setCell _ _ _ _ hqn).trans hq) htq), ?_⟩
  exact ((Below.refl (min base L) w).setCell (p := ⟨nb, 7 + j, none⟩) (Nat.le_trans (Nat.min_le_left base L) hnb) _).setCell (p := ⟨prd L j P, 7 + j, none⟩) hqb _
theorem ins_new {k : List Int} {a : Ag} {P S : List Nd} {nb j : Nat} (hP : ∀ n ∈ P, lts n.k k = true) (hS : ∀ n ∈ S, lts n.k k = false) (hne : ∀ n ∈ S, n.k ≠ k) : cont (P ++ ⟨nb, j, k, a⟩ :: S) = insF (cont (P ++ S)) k a := by
  have : cont (P ++ S) = cont P ++ cont S := by simp [cont]
  rw [this, insF_front hP]
  have h2 : insF (cont S) k a = (k, a) :: cont S := by
    cases S with
    | nil => rfl
    | cons s S =>
      show (if lts s.k k = true then _ else if s.k = k then _ else (k, a) :: (s.k, s.a) :: cont S) = _
      rw [hS s (by simp), if_neg (by simp), if_neg (hne s (by simp))]
      rfl
  rw [h2]
  simp [cont]
/-- Behind a key that is not there all keys are greater. -/
theorem behind {k : List Int} {S : List Nd} (hS : ∀ n ∈ S, lts n.k k = false) (hne : ∀ n ∈ S, n.k ≠ k) : ∀ n ∈ S, lts k n.k = true := fun n hn => by
  cases h : lts k n.k
  · exact absurd (lts_total _ _ (hS n hn) h) (hne n hn)
  · rfl
theorem head_ne {k : List Int} {s : Nd} {S : List Nd} (hsrt : (s :: S).Pairwise (fun m n => lts m.k n.k = true)) (hS : ∀ n ∈ s :: S, lts n.k k = false) (hne : s.k ≠ k) : ∀ n ∈ s :: S, n.k ≠ k := fun n hn e => by
  rcases List.mem_cons.1 hn with rfl | hn
  · exact hne e
  · rw [List.pairwise_cons] at hsrt
    have h1 := hsrt.1 n hn
    rw [e] at h1
    rw [hS s (by simp)] at h1
    cases h1
theorem put_new {w w7 : World} {base L nb j : Nat} {k : List Int} {av : Ag} {P S : List Nd} (h : SkM false w7 base L P S nb j k (av) ((P ++ S).length + 1 : Nat)) (h0 : SkAt false w base L (P ++ S)) (hG : Gs w w7) (hB : Below (min base L) w w7) (hj1 : 1 ≤ j) (hj8 : j ≤ 8) (hk : Byt k ∧ 0 < k.length ∧ k.length ≤ 256)
    (hP : ∀ n ∈ P, lts n.k k = true) (hS : ∀ n ∈ S, lts n.k k = false) (hne : ∀ n ∈ S, n.k ≠ k) (hv : Gd av) : PutTo w base L (P ++ S) k av (.returned (.int .i64 0)) w7 := by
  refine ⟨_, rfl, h.done rfl h0 hj1 hj8 hk hP (behind hS hne), ins_new hP hS hne, fun hf n hn => ?_, by simp; omega, hG, hB⟩
  rcases List.mem_append.1 hn with hn | hn
  · exact hf n (by simp [hn])
  · rcases List.mem_cons.1 hn with rfl | hn
    · exact hv
    · exact hf n (by simp [hn])
set_option maxHeartbeats 4000000 in
set_option maxRecDepth 100000 in
theorem put_nil {w : World} {base L c h : Nat} {A : Addr} {k : List Int} {av : Ag} {P : List Nd} (hbase : base ≤ w.heap.size) (hP : ∀ n ∈ P, lts n.k k = true) (hS : ∀ n ∈ ([] : List Nd), lts n.k k = false) (hsk : SkAt false w base L (P ++ ([] : List Nd))) (hk : RdB w (some A) k) (hkc : k.length ≤ c) (hb : Byt k) (h0 : 0 < k.length) (h1 : k.length ≤ 256) (hh1 : 1 ≤ h) (hh2 : h ≤ 8) (hlen : (P ++ ([] : List Nd)).length ≤ 1000)
    (hv : Gd av) (hfw : ∀ n ∈ P ++ ([] : List Nd), Gd n.a) :
    Calls Try.prog 7 #[ptr L, entV (some A) k.length c (av), .int .i64 h] w (PutTo w base L (P ++ ([] : List Nd)) k av) := by
  have HP := Aside0.mk hP
  have HS := Aside0.mk hS
  have ha := hv
  have ha0 : av.c ≠ 0 := hv.c0
  rcases hav : av with ⟨ac, ao, ah, al, an, ax⟩
  rw [hav] at ha ha0
  have HAV := Aside0.mk hav
  have HFW := Aside0.mk hfw
  have hac : (ac == 0) = false := beq_eq_false_iff_ne.2 ha0
  have hmm : an ≤ ax := ha.mm
  have HA := Aside0.mk ha
  have HK := Aside0.mk hk
  have H0 := Aside0.mk hsk
  have HV := Aside0.mk hv
  clear hav hfw hv
  have hB := (Below.refl w.heap.size w).alloc (Nat.le_refl _) (.cells #[.slice (some A) k.length c, .int .u64 ac, .bool ao, .int .i64 ah, .int .u64 al, .int .i64 an, .int .i64 ax] 36)
  have hE : (w.alloc (.cells #[.slice (some A) k.length c, .int .u64 ac, .bool ao, .int .i64 ah, .int .u64 al, .int .i64 an, .int .i64 ax] 36)).heap[w.heap.size]? = some (.cells #[.slice (some A) k.length c, .int .u64 ac, .bool ao, .int .i64 ah, .int .u64 al, .int .i64 an, .int .i64 ax] 36 (0, 0)) := al_new rfl
  have hsk1 := hsk.below (below_alloc (Below.refl _ _) (.cells #[.slice (some A) k.length c, .int .u64 ac, .bool ao, .int .i64 ah, .int .u64 al, .int .i64 an, .int .i64 ax] 36))
  have x17 : (w.alloc (.cells #[.slice (some A) k.length c, .int .u64 ac, .bool ao, .int .i64 ah, .int .u64 al, .int .i64 an, .int .i64 ax] 36)).cell? ⟨L, 17, none⟩ = some (.bool false) := by
    obtain ⟨cs, z, g1, g2, g3, g4, g5, g6⟩ := hsk1.hd
    exact (cell_of_row _ L _ cs _ (0, 0) g1).trans g6
  have d1 : decide ((h : Int) < 1) = false := decide_eq_false (by omega)
  have d2 : decide ((8 : Int) < (h : Int)) = false := decide_eq_false (by omega)
  have d3 : decide ((k.length : Int) < 1) = false := decide_eq_false (by omega)
  have d4 : decide ((256 : Int) < (k.length : Int)) = false := decide_eq_false (by omega)
  have H1 := Aside0.mk hsk1
  clear hP hS ha hk hsk hsk1
  unfold ptr entV
  go_enter Try.func7, Try.ntmps7
  go_wp2_with fail
  refine (right_gd (a := ⟨ac, ao, ah, al, an, ax⟩) HA.out).mono ?_
  rintro e w2 ⟨rfl, hb2⟩
  have H2 := Aside0.mk (H1.out.below hb2)
  have hE2 := (hb2.block _ (blk_lt hE)).trans hE
  have hB2 := hB.trans (hb2.mono hB.size)
  have HK2 : Aside0 (RdB w2 (some A) k) := ⟨HK.out.below (Below.mono hB2 (Nat.le_refl _))⟩
  have hes : w.heap.size ≤ w.heap.size := Nat.le_refl _
  generalize he0 : w.heap.size = e0 at hE2 hes
  have HE0 := Aside0.mk he0
  clear hb2 hE hB x17 H1
  have y0 : w2.cell? ⟨e0, 0, none⟩ = some (.slice (some A) k.length c) := (blk_cell hE2 0).trans rfl
  have y1 : w2.cell? ⟨e0, 1, none⟩ = some (.int .u64 ac) := (blk_cell hE2 1).trans rfl
  have y2 : w2.cell? ⟨e0, 2, none⟩ = some (.bool ao) := (blk_cell hE2 2).trans rfl
  have y3 : w2.cell? ⟨e0, 3, none⟩ = some (.int .i64 ah) := (blk_cell hE2 3).trans rfl
  have y4 : w2.cell? ⟨e0, 4, none⟩ = some (.int .u64 al) := (blk_cell hE2 4).trans rfl
  have y5 : w2.cell? ⟨e0, 5, none⟩ = some (.int .i64 an) := (blk_cell hE2 5).trans rfl
  have y6 : w2.cell? ⟨e0, 6, none⟩ = some (.int .i64 ax) := (blk_cell hE2 6).trans rfl
  go_wp2_with fail
  refine (find_c H2.out HK2.out hb HP.out HS.out).mono ?_
  rintro e w3 ⟨rfl, hb3⟩
  have H3 := H2.out.below hb3
  have hE3 := (hb3.block _ (blk_lt hE2)).trans hE2
  have hB3 := hB2.trans (hb3.mono hB2.size)
  have H4 := H3.below (below_alloc (Below.refl _ _) (.cells #[.pointer (some ⟨prd L 0 P, 0, none⟩), .pointer (some ⟨prd L 1 P, 0, none⟩), .pointer (some ⟨prd L 2 P, 0, none⟩), .pointer (some ⟨prd L 3 P, 0, none⟩), .pointer (some ⟨prd L 4 P, 0, none⟩), .pointer (some ⟨prd L 5 P, 0, none⟩), .pointer (some ⟨prd L 6 P, 0, none⟩), .pointer (some ⟨prd L 7 P, 0, none⟩)] 52))
  have hE4 : (w3.alloc (.cells #[.pointer (some ⟨prd L 0 P, 0, none⟩), .pointer (some ⟨prd L 1 P, 0, none⟩), .pointer (some ⟨prd L 2 P, 0, none⟩), .pointer (some ⟨prd L 3 P, 0, none⟩), .pointer (some ⟨prd L 4 P, 0, none⟩), .pointer (some ⟨prd L 5 P, 0, none⟩), .pointer (some ⟨prd L 6 P, 0, none⟩), .pointer (some ⟨prd L 7 P, 0, none⟩)] 52)).heap[e0]? = _ := al_old hE3 _
  have hG4 : (w3.alloc (.cells #[.pointer (some ⟨prd L 0 P, 0, none⟩), .pointer (some ⟨prd L 1 P, 0, none⟩), .pointer (some ⟨prd L 2 P, 0, none⟩), .pointer (some ⟨prd L 3 P, 0, none⟩), .pointer (some ⟨prd L 4 P, 0, none⟩), .pointer (some ⟨prd L 5 P, 0, none⟩), .pointer (some ⟨prd L 6 P, 0, none⟩), .pointer (some ⟨prd L 7 P, 0, none⟩)] 52)).heap[w3.heap.size]? = some (.cells #[.pointer (some ⟨prd L 0 P, 0, none⟩), .pointer (some ⟨prd L 1 P, 0, none⟩), .pointer (some ⟨prd L 2 P, 0, none⟩), .pointer (some ⟨prd L 3 P, 0, none⟩), .pointer (some ⟨prd L 4 P, 0, none⟩), .pointer (some ⟨prd L 5 P, 0, none⟩), .pointer (some ⟨prd L 6 P, 0, none⟩), .pointer (some ⟨prd L 7 P, 0, none⟩)] 52 (0, 0)) := al_new rfl
  have hB4 := hB3.alloc hB3.size (.cells #[.pointer (some ⟨prd L 0 P, 0, none⟩), .pointer (some ⟨prd L 1 P, 0, none⟩), .pointer (some ⟨prd L 2 P, 0, none⟩), .pointer (some ⟨prd L 3 P, 0, none⟩), .pointer (some ⟨prd L 4 P, 0, none⟩), .pointer (some ⟨prd L 5 P, 0, none⟩), .pointer (some ⟨prd L 6 P, 0, none⟩), .pointer (some ⟨prd L 7 P, 0, none⟩)] 52)
  have nx : (w3.alloc (.cells #[.pointer (some ⟨prd L 0 P, 0, none⟩), .pointer (some ⟨prd L 1 P, 0, none⟩), .pointer (some ⟨prd L 2 P, 0, none⟩), .pointer (some ⟨prd L 3 P, 0, none⟩), .pointer (some ⟨prd L 4 P, 0, none⟩), .pointer (some ⟨prd L 5 P, 0, none⟩), .pointer (some ⟨prd L 6 P, 0, none⟩), .pointer (some ⟨prd L 7 P, 0, none⟩)] 52)).cell? ⟨prd L 0 P, 7, none⟩ = some (nxt 0 []) := H4.pnext (i := 0) (by omega)
  have hg7 : w.heap.size ≤ w3.heap.size := hB3.size
  unfold Eight ptr
  generalize hw4 : w3.alloc (.cells #[.pointer (some ⟨prd L 0 P, 0, none⟩), .pointer (some ⟨prd L 1 P, 0, none⟩), .pointer (some ⟨prd L 2 P, 0, none⟩), .pointer (some ⟨prd L 3 P, 0, none⟩), .pointer (some ⟨prd L 4 P, 0, none⟩), .pointer (some ⟨prd L 5 P, 0, none⟩), .pointer (some ⟨prd L 6 P, 0, none⟩), .pointer (some ⟨prd L 7 P, 0, none⟩)] 52) = w4 at H4 hE4 hG4 hB4 nx
  generalize hg : w3.heap.size = g7 at hG4 hg7
  have HW4 := Aside0.mk hw4
  have HG7 := Aside0.mk hg
  have H4' := Aside0.mk H4
  clear H4 H3 hE3 hB3 hb3 H2 hE2 hB2 y0 y1 y2 y3 y4 y5 y6
  have y0 : w4.cell? ⟨e0, 0, none⟩ = some (.slice (some A) k.length c) := (blk_cell hE4 0).trans rfl
  have y1 : w4.cell? ⟨e0, 1, none⟩ = some (.int .u64 ac) := (blk_cell hE4 1).trans rfl
  have y2 : w4.cell? ⟨e0, 2, none⟩ = some (.bool ao) := (blk_cell hE4 2).trans rfl
  have y3 : w4.cell? ⟨e0, 3, none⟩ = some (.int .i64 ah) := (blk_cell hE4 3).trans rfl
  have y4 : w4.cell? ⟨e0, 4, none⟩ = some (.int .u64 al) := (blk_cell hE4 4).trans rfl
  have y5 : w4.cell? ⟨e0, 5, none⟩ = some (.int .i64 an) := (blk_cell hE4 5).trans rfl
  have y6 : w4.cell? ⟨e0, 6, none⟩ = some (.int .i64 ax) := (blk_cell hE4 6).trans rfl
  have g0 : w4.cell? ⟨g7, 0, none⟩ = some (.pointer (some ⟨prd L 0 P, 0, none⟩)) := (blk_cell hG4 0).trans rfl
  replace nx : w4.cell? ⟨prd L 0 P, 7, none⟩ = some (.pointer none) := nx
  go_wp2_with fail
  go_quiet (fail)
  have hEq : (.cells #[.pointer (some ⟨prd L 0 P, 0, none⟩), .pointer (some ⟨prd L 1 P, 0, none⟩), .pointer (some ⟨prd L 2 P, 0, none⟩), .pointer (some ⟨prd L 3 P, 0, none⟩), .pointer (some ⟨prd L 4 P, 0, none⟩), .pointer (some ⟨prd L 5 P, 0, none⟩), .pointer (some ⟨prd L 6 P, 0, none⟩), .pointer (some ⟨prd L 7 P, 0, none⟩)] 52 (0, 0) : Obj) = .cells (Eight L P) 52 (0, 0) := rfl
  have H5 : Aside0 (SkAt false (w4.drewN nq) base L (P ++ [])) := ⟨H4'.out.below (pw_below_drewN (Below.refl _ _) nq)⟩
  have hE5 : (w4.drewN nq).heap[e0]? = _ := hE4
  have hG5 : (w4.drewN nq).heap[g7]? = some (.cells (Eight L P) 52 (0, 0)) := hG4
  have hB5 := pw_below_drewN hB4 nq
  have HK5 : Aside0 (RdB (w4.drewN nq) (some A) k) := ⟨HK.out.below (Below.mono hB5 (Nat.le_refl _))⟩
  have HNE : Aside0 (∀ n ∈ ([] : List Nd), n.k ≠ k) := ⟨fun _ h => by cases h⟩
  have HS' : Aside0 (∀ n ∈ ([] : List Nd), lts n.k k = false) := HS
  have H0' : Aside0 (SkAt false w base L (P ++ [])) := H0
  have hlen' : (P ++ []).length ≤ 1000 := hlen
  generalize hw5 : w4.drewN nq = w5 at H5 hE5 hG5 hB5 HK5 ⊢
  have HW5 := Aside0.mk hw5
  clear hw5 nx g0 hE4 hG4 hB4 hEq y0 y1 y2 y3 y4 y5 y6
  generalize hSS : ([] : List Nd) = S' at HNE HS' H0' hlen' H5
  have HSS := Aside0.mk hSS
  clear hSS
  have x15 : w5.cell? ⟨L, 15, none⟩ = some (.int .i64 ((P ++ S').length : Nat)) := by
    obtain ⟨cs, z, g1, g2, g3, g4, g5, g6⟩ := H5.out.hd
    exact (cell_of_row _ L _ cs _ (0, 0) g1).trans g4
  generalize hN : (P ++ S').length = N at x15 hlen'
  have HN := Aside0.mk hN
  clear hN
  have d5 : decide ((4096 : Int) ≤ (N : Int)) = false := decide_eq_false (by omega)
  have y0 : w5.cell? ⟨e0, 0, none⟩ = some (.slice (some A) k.length c) := (blk_cell hE5 0).trans rfl
  have y1 : w5.cell? ⟨e0, 1, none⟩ = some (.int .u64 ac) := (blk_cell hE5 1).trans rfl
  have y2 : w5.cell? ⟨e0, 2, none⟩ = some (.bool ao) := (blk_cell hE5 2).trans rfl
  have y3 : w5.cell? ⟨e0, 3, none⟩ = some (.int .i64 ah) := (blk_cell hE5 3).trans rfl
  have y4 : w5.cell? ⟨e0, 4, none⟩ = some (.int .u64 al) := (blk_cell hE5 4).trans rfl
  have y5 : w5.cell? ⟨e0, 5, none⟩ = some (.int .i64 an) := (blk_cell hE5 5).trans rfl
  have y6 : w5.cell? ⟨e0, 6, none⟩ = some (.int .i64 ax) := (blk_cell hE5 6).trans rfl
  go_wp2_with fail
  go_region_held3 (fun w' => w'.cell? ⟨e0, 0, none⟩ = some (.slice (some A) k.length c) ∧ w'.cell? ⟨e0, 1, none⟩ = some (.int .u64 ac) ∧ w'.cell? ⟨e0, 2, none⟩ = some (.bool ao) ∧ w'.cell? ⟨e0, 3, none⟩ = some (.int .i64 ah) ∧ w'.cell? ⟨e0, 4, none⟩ = some (.int .u64 al) ∧ w'.cell? ⟨e0, 5, none⟩ = some (.int .i64 an) ∧ w'.cell? ⟨e0, 6, none⟩ = some (.int .i64 ax)) (first | exact ⟨by assumption, by assumption, by assumption, by assumption, by assumption, by assumption, by assumption⟩ | go_keep) (first | (go_at_call 25; refine (clone_c (RdB.drewN HK5.out 1) h0 (by omega)).mono ?_; rintro e w6 ⟨kv, rfl, hown, hb6⟩; obtain ⟨Ak, ck, rfl, _, _⟩ := own_rdb hown; have hE6 := (hb6.block e0 (blk_lt hE5)).trans hE5; have z0 : w6.cell? ⟨e0, 0, none⟩ = some (.slice (some A) k.length c) := (blk_cell hE6 0).trans rfl; have z1 : w6.cell? ⟨e0, 1, none⟩ = some (.int .u64 ac) := (blk_cell hE6 1).trans rfl; have z2 : w6.cell? ⟨e0, 2, none⟩ = some (.bool ao) := (blk_cell hE6 2).trans rfl; have z3 : w6.cell? ⟨e0, 3, none⟩ = some (.int .i64 ah) := (blk_cell hE6 3).trans rfl; have z4 : w6.cell? ⟨e0, 4, none⟩ = some (.int .u64 al) := (blk_cell hE6 4).trans rfl; have z5 : w6.cell? ⟨e0, 5, none⟩ = some (.int .i64 an) := (blk_cell hE6 5).trans rfl; have z6 : w6.cell? ⟨e0, 6, none⟩ = some (.int .i64 ax) := (blk_cell hE6 6).trans rfl))
  have hX : ∀ kk, kk < w5.heap.size → (w6.alloc (.cells #[.slice Ak k.length ck, .int .u64 ac, .bool ao, .int .i64 ah, .int .u64 al, .int .i64 an, .int .i64 ax, .pointer none, .pointer none, .pointer none, .pointer none, .pointer none, .pointer none, .pointer none, .pointer none] 54)).heap[kk]? = w5.heap[kk]? := fun kk hk => (Below.heap_alloc _ _ kk (Nat.lt_of_lt_of_le hk hb6.size)).trans (hb6.block kk hk)
  have hown8 : (w6.alloc (.cells #[.slice Ak k.length ck, .int .u64 ac, .bool ao, .int .i64 ah, .int .u64 al, .int .i64 an, .int .i64 ax, .pointer none, .pointer none, .pointer none, .pointer none, .pointer none, .pointer none, .pointer none, .pointer none] 54)).ownsRow base 5 1 (.slice Ak k.length ck) k.length (nums .u8 k) := own_low (own_move hown (fun k hk => Below.heap_alloc _ _ k (by obtain ⟨cs, hc⟩ := own_typed hown k hk; exact blk_lt hc))) (Nat.le_trans hbase hB5.size)
  have hmid : SkM false (w6.alloc (.cells #[.slice Ak k.length ck, .int .u64 ac, .bool ao, .int .i64 ah, .int .u64 al, .int .i64 an, .int .i64 ax, .pointer none, .pointer none, .pointer none, .pointer none, .pointer none, .pointer none, .pointer none, .pointer none] 54)) base L P S' w6.heap.size 0 k ⟨ac, ao, ah, al, an, ax⟩ (P ++ S').length := SkM.start H5.out hX hb6.size (Nat.le_trans hbase hB5.size) (al_new rfl) hown8
  have hE8 := al_old hE6 (.cells #[.slice Ak k.length ck, .int .u64 ac, .bool ao, .int .i64 ah, .int .u64 al, .int .i64 an, .int .i64 ax, .pointer none, .pointer none, .pointer none, .pointer none, .pointer none, .pointer none, .pointer none, .pointer none] 54)
  have hG8 := al_old ((hb6.block g7 (blk_lt hG5)).trans hG5) (.cells #[.slice Ak k.length ck, .int .u64 ac, .bool ao, .int .i64 ah, .int .u64 al, .int .i64 an, .int .i64 ax, .pointer none, .pointer none, .pointer none, .pointer none, .pointer none, .pointer none, .pointer none, .pointer none] 54)
  have hB8 := ((below_drew hB5).trans (hb6.mono hB5.size)).alloc (Nat.le_trans hB5.size hb6.size) (.cells #[.slice Ak k.length ck, .int .u64 ac, .bool ao, .int .i64 ah, .int .u64 al, .int .i64 an, .int .i64 ax, .pointer none, .pointer none, .pointer none, .pointer none, .pointer none, .pointer none, .pointer none, .pointer none] 54)
  have hgs8 := Gs.of_below hB8
  have hb8 := hB8.mono (Nat.le_trans (Nat.min_le_left base L) hbase)
  clear hX hown8 hB8 hG5 hE5 hE6 hb6 hown x15 y0 y1 y2 y3 y4 y5 y6
  generalize w6.alloc (.cells #[.slice Ak k.length ck, .int .u64 ac, .bool ao, .int .i64 ah, .int .u64 al, .int .i64 an, .int .i64 ax, .pointer none, .pointer none, .pointer none, .pointer none, .pointer none, .pointer none, .pointer none, .pointer none] 54) = w8 at hmid hE8 hG8 hgs8 hb8 ⊢
  generalize w6.heap.size = nb at hmid ⊢
  go_wp2_with fail
  go_loopw [92] (fun iv wr => ∃ j : Nat, j ≤ h ∧ iv = .int .i64 j ∧ SkM false wr base L P S' nb j k ⟨ac, ao, ah, al, an, ax⟩ (P ++ S').length ∧ wr.heap[e0]? = some (.cells #[.slice (some A) k.length c, .int .u64 ac, .bool ao, .int .i64 ah, .int .u64 al, .int .i64 an, .int .i64 ax] 36 (0, 0)) ∧ wr.heap[g7]? = some (.cells (Eight L P) 52 (0, 0)) ∧ Gs w wr ∧ Below (min base L) w wr) (fun iv _ => h - (intOf iv).toNat)
  case atStart => exact ⟨0, by omega, rfl, hmid, hE8, hG8, hgs8, hb8⟩
  case round =>
    clear hmid hE8 hG8 hgs8 hb8
    obtain ⟨j, hj, rfl, hM, hE9, hG9, hgs, hbl⟩ := hrel
    by_cases hlt : j < h
    · have hj8 : j < 8 := by omega
      have t1 : decide (j < h) = true := decide_eq_true hlt
      have gj : wr.cell? ⟨g7, j, none⟩ = some (.pointer (some ⟨prd L j P, 0, none⟩)) := (cell_of_row wr g7 _ _ _ (0, 0) hG9).trans (eight_get L P j hj8)
      obtain ⟨qn, ⟨csq, tq, hq, _⟩, hqn, _, _⟩ := hM.prd_cell hj8
      obtain ⟨csn, kv, hn1, hn2, _⟩ := NsAt.at hM.nodes
      have hn1 : wr.heap[nb]? = some (.cells csn 54 (0, 0)) := hn1
      obtain ⟨v0, hv0⟩ : ∃ v, wr.cell? ⟨nb, 7 + j, none⟩ = some v := ⟨_, (cell_of_row wr nb _ csn _ (0, 0) hn1).trans (Array.getElem?_eq_getElem (by omega))⟩
      have f1 : wr.frozen? ⟨nb, 7 + j, none⟩ = false := blk_frozen hn1 _
      have f2 : wr.frozen? ⟨prd L j P, 7 + j, none⟩ = false := blk_frozen hq _
      have hst := hM.step hj8
      have hsg := hM.step_gs hj8
      have HNB := Aside0.mk hM
      have qn2 : (wr.setCell ⟨nb, 7 + j, none⟩ (nxt j S')).cell? ⟨prd L j P, 7 + j, none⟩ = some (nxt j S') := (cell_of_row _ _ _ csq _ (0, 0) ((Below.heap_setCell _ _ _ _ hqn).trans hq)).trans ((cell_of_row wr _ _ csq _ (0, 0) hq).symm.trans qn)
      unfold ptr at hst hsg
      obtain ⟨pp, hpp⟩ := nxt_ptr j S'
      rw [hpp] at qn qn2 hst hsg
      have hj8' : (j : Int) < 8 := by omega
      clear hM
      go_wp2_with fail
      go_region
      all_goals
        have hE10 := hsg.1.2 _ _ hE9 (fun cs e => by simp at e) (fun cs e => by simp at e)
        have hG10 := hsg.1.2 _ _ hG9 (fun cs e => by simp at e) (fun cs e => by simp at e)
        have hgs10 := hgs.trans hsg.1
        have hbl10 := hbl.trans (hsg.2.mono (Nat.le_refl _))
        clear gj qn qn2 hE9 hG9 hgs hbl hn1 hn2 f1 f2 hv0 HNB hq hqn
        go_wp2
        go_roundw
        case rel => exact ⟨j + 1, by omega, by go_num, hst.move (fun _ _ _ _ _ => rfl), hE10, hG10, ⟨hgs10.1, hgs10.2⟩, below_drew hbl10⟩
        case measure => simp [intOf]; omega
    · have t1 : decide (j < h) = false := decide_eq_false hlt
      obtain rfl : j = h := by omega
      have hM1 := hM.setL (((P ++ S').length + 1 : Nat) : Int)
      rw [HN.out] at hM1
      obtain ⟨csL, z, hcsL, x15, x16⟩ : ∃ cs z, wr.heap[L]? = some (.cells cs 56 (0, 0)) ∧ wr.cell? ⟨L, 15, none⟩ = some (.int .i64 (N : Int)) ∧ wr.cell? ⟨L, 16, none⟩ = some (.int .i64 z) := by
        obtain ⟨cs, z, g1, g2, g3, g4, g5, g6⟩ := hM.hd
        rw [HN.out] at g4
        exact ⟨cs, z, g1, (cell_of_row _ L _ cs _ (0, 0) g1).trans g4, (cell_of_row _ L _ cs _ (0, 0) g1).trans g5⟩
      have f15 : wr.frozen? ⟨L, 15, none⟩ = false := blk_frozen hcsL _
      have hg1 : Gs wr (wr.setCell ⟨L, 15, none⟩ (.int .i64 ((N + 1 : Nat) : Int))) := Gs.far (X := L) (fun kk hk => Below.heap_setCell _ _ _ _ hk) (by simp [World.setCell]) hcsL (.inr rfl)
      have hb1 := hbl.setCell (p := ⟨L, 15, none⟩) (Nat.min_le_right base L) (.int .i64 ((N + 1 : Nat) : Int))
      have hE10 := hg1.2 _ _ hE9 (fun cs e => by simp at e) (fun cs e => by simp at e)
      have hL10 : (wr.setCell ⟨L, 15, none⟩ (.int .i64 ((N + 1 : Nat) : Int))).heap[L]? = some (.cells (csL.setIfInBounds 15 (.int .i64 ((N + 1 : Nat) : Int))) 56 (0, 0)) := blk_put hcsL 15 _ rfl
      have y16 : (wr.setCell ⟨L, 15, none⟩ (.int .i64 ((N + 1 : Nat) : Int))).cell? ⟨L, 16, none⟩ = some (.int .i64 z) := by
        obtain ⟨cs2, z2, g1, g2, g3, g4, g5, g6⟩ := hM.hd
        rw [cell_of_row _ L _ _ _ (0, 0) hL10, Array.getElem?_setIfInBounds, if_neg (by omega), ← x16, cell_of_row _ L _ _ _ (0, 0) hcsL]
      have hgs1 := hgs.trans hg1
      have HLb := Aside0.mk (Nat.min_le_right base L)
      have hN1 : ((N + 1 : Nat) : Int) = (N : Int) + 1 := by omega
      rw [hN1] at hM1 hg1 hb1 hE10 hL10 y16 hgs1
      have HM1 := Aside0.mk hM1
      have HGS := Aside0.mk hgs1
      have HN1 := Aside0.mk hN1
      clear hM hM1 hE9 hG9 x16 hg1 hgs1 hgs hbl hN1
      go_wp2_with fail
      generalize wr.setCell ⟨L, 15, none⟩ (.int .i64 ((N : Int) + 1)) = W9 at HM1 hb1 hE10 hL10 y16 HGS ⊢
      have y0 : W9.cell? ⟨e0, 0, none⟩ = some (.slice (some A) k.length c) := (blk_cell hE10 0).trans rfl
      have f16 : W9.frozen? ⟨L, 16, none⟩ = false := blk_frozen hL10 _
      clear hE10 x15 f15 hcsL
      go_region
      all_goals
        go_wp2
        go_ret
        rw [HSS.out]
        refine put_new (nb := nb) ?_ H0'.out ?_ (below_drew (hb1.setCell (p := ⟨L, 16, none⟩) HLb.out _)) (by omega) hh2 ⟨hb, h0, h1⟩ HP.out HS'.out HNE.out HA.out
        · rw [HN.out, HN1.out]
          exact (HM1.out.setZ _).move (fun _ _ _ _ _ => rfl)
        · have hx := HGS.out.trans (Gs.far (w1 := W9.setCell ⟨L, 16, none⟩ (.int .i64 (wrap64 (z + (↑k.length + 41))))) (X := L) (fun kk hk => Below.heap_setCell _ _ _ _ hk) (by simp [World.setCell]) hL10 (.inr rfl))
          exact ⟨hx.1, hx.2⟩
set_option maxHeartbeats 4000000 in
set_option maxRecDepth 100000 in
theorem put_eq {w : World} {base L c h : Nat} {A : Addr} {k : List Int} {av : Ag} {P S : List Nd} {s : Nd} (hbase : base ≤ w.heap.size) (hP : ∀ n ∈ P, lts n.k k = true) (hS : ∀ n ∈ (s :: S), lts n.k k = false) (heq : s.k = k) (hsk : SkAt false w base L (P ++ (s :: S))) (hk : RdB w (some A) k) (hkc : k.length ≤ c) (hb : Byt k) (h0 : 0 < k.length) (h1 : k.length ≤ 256) (hh1 : 1 ≤ h) (hh2 : h ≤ 8) (hlen : (P ++ (s :: S)).length ≤ 1000)
    (hv : Gd av) (hfw : ∀ n ∈ P ++ (s :: S), Gd n.a) :
    Calls Try.prog 7 #[ptr L, entV (some A) k.length c (av), .int .i64 h] w (PutTo w base L (P ++ (s :: S)) k av) := by
  have HQ := Aside0.mk heq
  clear heq
  have HP := Aside0.mk hP
  have HS := Aside0.mk hS
  have ha := hv
  have ha0 : av.c ≠ 0 := hv.c0
  rcases hav : av with ⟨ac, ao, ah, al, an, ax⟩
  rw [hav] at ha ha0
  have HAV := Aside0.mk hav
  have HFW := Aside0.mk hfw
  have hac : (ac == 0) = false := beq_eq_false_iff_ne.2 ha0
  have hmm : an ≤ ax := ha.mm
  have HA := Aside0.mk ha
  have HK := Aside0.mk hk
  have H0 := Aside0.mk hsk
  have HV := Aside0.mk hv
  clear hav hfw hv
  have hB := (Below.refl w.heap.size w).alloc (Nat.le_refl _) (.cells #[.slice (some A) k.length c, .int .u64 ac, .bool ao, .int .i64 ah, .int .u64 al, .int .i64 an, .int .i64 ax] 36)
  have hE : (w.alloc (.cells #[.slice (some A) k.length c, .int .u64 ac, .bool ao, .int .i64 ah, .int .u64 al, .int .i64 an, .int .i64 ax] 36)).heap[w.heap.size]? = some (.cells #[.slice (some A) k.length c, .int .u64 ac, .bool ao, .int .i64 ah, .int .u64 al, .int .i64 an, .int .i64 ax] 36 (0, 0)) := al_new rfl
  have hsk1 := hsk.below (below_alloc (Below.refl _ _) (.cells #[.slice (some A) k.length c, .int .u64 ac, .bool ao, .int .i64 ah, .int .u64 al, .int .i64 an, .int .i64 ax] 36))
  have x17 : (w.alloc (.cells #[.slice (some A) k.length c, .int .u64 ac, .bool ao, .int .i64 ah, .int .u64 al, .int .i64 an, .int .i64 ax] 36)).cell? ⟨L, 17, none⟩ = some (.bool false) := by
    obtain ⟨cs, z, g1, g2, g3, g4, g5, g6⟩ := hsk1.hd
    exact (cell_of_row _ L _ cs _ (0, 0) g1).trans g6
  have d1 : decide ((h : Int) < 1) = false := decide_eq_false (by omega)
  have d2 : decide ((8 : Int) < (h : Int)) = false := decide_eq_false (by omega)
  have d3 : decide ((k.length : Int) < 1) = false := decide_eq_false (by omega)
  have d4 : decide ((256 : Int) < (k.length : Int)) = false := decide_eq_false (by omega)
  have H1 := Aside0.mk hsk1
  clear hP hS ha hk hsk hsk1
  unfold ptr entV
  go_enter Try.func7, Try.ntmps7
  go_wp2_with fail
  refine (right_gd (a := ⟨ac, ao, ah, al, an, ax⟩) HA.out).mono ?_
  rintro e w2 ⟨rfl, hb2⟩
  have H2 := Aside0.mk (H1.out.below hb2)
  have hE2 := (hb2.block _ (blk_lt hE)).trans hE
  have hB2 := hB.trans (hb2.mono hB.size)
  have HK2 : Aside0 (RdB w2 (some A) k) := ⟨HK.out.below (Below.mono hB2 (Nat.le_refl _))⟩
  have hes : w.heap.size ≤ w.heap.size := Nat.le_refl _
  generalize he0 : w.heap.size = e0 at hE2 hes
  have HE0 := Aside0.mk he0
  clear hb2 hE hB x17 H1
  have y0 : w2.cell? ⟨e0, 0, none⟩ = some (.slice (some A) k.length c) := (blk_cell hE2 0).trans rfl
  have y1 : w2.cell? ⟨e0, 1, none⟩ = some (.int .u64 ac) := (blk_cell hE2 1).trans rfl
  have y2 : w2.cell? ⟨e0, 2, none⟩ = some (.bool ao) := (blk_cell hE2 2).trans rfl
  have y3 : w2.cell? ⟨e0, 3, none⟩ = some (.int .i64 ah) := (blk_cell hE2 3).trans rfl
  have y4 : w2.cell? ⟨e0, 4, none⟩ = some (.int .u64 al) := (blk_cell hE2 4).trans rfl
  have y5 : w2.cell? ⟨e0, 5, none⟩ = some (.int .i64 an) := (blk_cell hE2 5).trans rfl
  have y6 : w2.cell? ⟨e0, 6, none⟩ = some (.int .i64 ax) := (blk_cell hE2 6).trans rfl
  go_wp2_with fail
  refine (find_c H2.out HK2.out hb HP.out HS.out).mono ?_
  rintro e w3 ⟨rfl, hb3⟩
  have H3 := H2.out.below hb3
  have hE3 := (hb3.block _ (blk_lt hE2)).trans hE2
  have hB3 := hB2.trans (hb3.mono hB2.size)
  have H4 := H3.below (below_alloc (Below.refl _ _) (.cells #[.pointer (some ⟨prd L 0 P, 0, none⟩), .pointer (some ⟨prd L 1 P, 0, none⟩), .pointer (some ⟨prd L 2 P, 0, none⟩), .pointer (some ⟨prd L 3 P, 0, none⟩), .pointer (some ⟨prd L 4 P, 0, none⟩), .pointer (some ⟨prd L 5 P, 0, none⟩), .pointer (some ⟨prd L 6 P, 0, none⟩), .pointer (some ⟨prd L 7 P, 0, none⟩)] 52))
  have hE4 : (w3.alloc (.cells #[.pointer (some ⟨prd L 0 P, 0, none⟩), .pointer (some ⟨prd L 1 P, 0, none⟩), .pointer (some ⟨prd L 2 P, 0, none⟩), .pointer (some ⟨prd L 3 P, 0, none⟩), .pointer (some ⟨prd L 4 P, 0, none⟩), .pointer (some ⟨prd L 5 P, 0, none⟩), .pointer (some ⟨prd L 6 P, 0, none⟩), .pointer (some ⟨prd L 7 P, 0, none⟩)] 52)).heap[e0]? = _ := al_old hE3 _
  have hG4 : (w3.alloc (.cells #[.pointer (some ⟨prd L 0 P, 0, none⟩), .pointer (some ⟨prd L 1 P, 0, none⟩), .pointer (some ⟨prd L 2 P, 0, none⟩), .pointer (some ⟨prd L 3 P, 0, none⟩), .pointer (some ⟨prd L 4 P, 0, none⟩), .pointer (some ⟨prd L 5 P, 0, none⟩), .pointer (some ⟨prd L 6 P, 0, none⟩), .pointer (some ⟨prd L 7 P, 0, none⟩)] 52)).heap[w3.heap.size]? = some (.cells #[.pointer (some ⟨prd L 0 P, 0, none⟩), .pointer (some ⟨prd L 1 P, 0, none⟩), .pointer (some ⟨prd L 2 P, 0, none⟩), .pointer (some ⟨prd L 3 P, 0, none⟩), .pointer (some ⟨prd L 4 P, 0, none⟩), .pointer (some ⟨prd L 5 P, 0, none⟩), .pointer (some ⟨prd L 6 P, 0, none⟩), .pointer (some ⟨prd L 7 P, 0, none⟩)] 52 (0, 0)) := al_new rfl
  have hB4 := hB3.alloc hB3.size (.cells #[.pointer (some ⟨prd L 0 P, 0, none⟩), .pointer (some ⟨prd L 1 P, 0, none⟩), .pointer (some ⟨prd L 2 P, 0, none⟩), .pointer (some ⟨prd L 3 P, 0, none⟩), .pointer (some ⟨prd L 4 P, 0, none⟩), .pointer (some ⟨prd L 5 P, 0, none⟩), .pointer (some ⟨prd L 6 P, 0, none⟩), .pointer (some ⟨prd L 7 P, 0, none⟩)] 52)
  have nx : (w3.alloc (.cells #[.pointer (some ⟨prd L 0 P, 0, none⟩), .pointer (some ⟨prd L 1 P, 0, none⟩), .pointer (some ⟨prd L 2 P, 0, none⟩), .pointer (some ⟨prd L 3 P, 0, none⟩), .pointer (some ⟨prd L 4 P, 0, none⟩), .pointer (some ⟨prd L 5 P, 0, none⟩), .pointer (some ⟨prd L 6 P, 0, none⟩), .pointer (some ⟨prd L 7 P, 0, none⟩)] 52)).cell? ⟨prd L 0 P, 7, none⟩ = some (nxt 0 (s :: S)) := H4.pnext (i := 0) (by omega)
  have hg7 : w.heap.size ≤ w3.heap.size := hB3.size
  unfold Eight ptr
  generalize hw4 : w3.alloc (.cells #[.pointer (some ⟨prd L 0 P, 0, none⟩), .pointer (some ⟨prd L 1 P, 0, none⟩), .pointer (some ⟨prd L 2 P, 0, none⟩), .pointer (some ⟨prd L 3 P, 0, none⟩), .pointer (some ⟨prd L 4 P, 0, none⟩), .pointer (some ⟨prd L 5 P, 0, none⟩), .pointer (some ⟨prd L 6 P, 0, none⟩), .pointer (some ⟨prd L 7 P, 0, none⟩)] 52) = w4 at H4 hE4 hG4 hB4 nx
  generalize hg : w3.heap.size = g7 at hG4 hg7
  have HW4 := Aside0.mk hw4
  have HG7 := Aside0.mk hg
  have H4' := Aside0.mk H4
  clear H4 H3 hE3 hB3 hb3 H2 hE2 hB2 y0 y1 y2 y3 y4 y5 y6
  have y0 : w4.cell? ⟨e0, 0, none⟩ = some (.slice (some A) k.length c) := (blk_cell hE4 0).trans rfl
  have y1 : w4.cell? ⟨e0, 1, none⟩ = some (.int .u64 ac) := (blk_cell hE4 1).trans rfl
  have y2 : w4.cell? ⟨e0, 2, none⟩ = some (.bool ao) := (blk_cell hE4 2).trans rfl
  have y3 : w4.cell? ⟨e0, 3, none⟩ = some (.int .i64 ah) := (blk_cell hE4 3).trans rfl
  have y4 : w4.cell? ⟨e0, 4, none⟩ = some (.int .u64 al) := (blk_cell hE4 4).trans rfl
  have y5 : w4.cell? ⟨e0, 5, none⟩ = some (.int .i64 an) := (blk_cell hE4 5).trans rfl
  have y6 : w4.cell? ⟨e0, 6, none⟩ = some (.int .i64 ax) := (blk_cell hE4 6).trans rfl
  have g0 : w4.cell? ⟨g7, 0, none⟩ = some (.pointer (some ⟨prd L 0 P, 0, none⟩)) := (blk_cell hG4 0).trans rfl
  have h1s : 0 < s.h := by
    have := (H4'.out.ht s (by simp)).1
    omega
  replace nx : w4.cell? ⟨prd L 0 P, 7, none⟩ = some (.pointer (some ⟨s.b, 0, none⟩)) := by
    rw [nx]
    show some (if 0 < s.h then ptr s.b else _) = _
    rw [if_pos h1s]
    rfl
  obtain ⟨As, cs, xs, HKs, hcs⟩ := H4'.out.key (A := P) (B := S) (n := s)
  have hbs := (H4'.out.ky s (by simp)).1
  have HKs' := Aside0.mk HKs
  have HK4 : Aside0 (RdB w4 (some A) k) := ⟨HK.out.below (Below.mono hB4 (Nat.le_refl _))⟩
  clear HKs
  go_wp2_with fail
  go_quiet ((go_at_call 23; exact Calls.quiet_of (equal_c (r := true) (HKs'.out.drewN _) (HK4.out.drewN _) hcs hkc hbs hb (decide_eq_true HQ.out).symm)))
  obtain ⟨sb, sh, sk, ⟨sc, so, shi, slo, smn, smx⟩⟩ := s
  have H5 : Aside0 (SkAt false (w4.drewN nq) base L (P ++ ⟨sb, sh, sk, ⟨sc, so, shi, slo, smn, smx⟩⟩ :: S)) := ⟨H4'.out.below (pw_below_drewN (Below.refl _ _) nq)⟩
  have hE5 : (w4.drewN nq).heap[e0]? = _ := hE4
  have hB5 := pw_below_drewN hB4 nq
  have hfs := HFW.out ⟨sb, sh, sk, ⟨sc, so, shi, slo, smn, smx⟩⟩ (by simp)
  generalize hw5 : w4.drewN nq = w5 at H5 hE5 hB5 ⊢
  have HW5 := Aside0.mk hw5
  clear hw5 nx xs g0 hE4 hG4 hB4 y0 y1 y2 y3 y4 y5 y6
  obtain ⟨kcs, kv, k1, k2, k3, ⟨c1, c2, c3, c4, c5, c6⟩, k5⟩ := NsAt.at H5.out.nodes
  simp only at c1 c2 c3 c4 c5 c6 k1
  have s1 : w5.cell? ⟨sb, 1, none⟩ = some (.int .u64 sc) := (cell_of_row w5 sb _ kcs _ (0, 0) k1).trans c1
  have s2 : w5.cell? ⟨sb, 2, none⟩ = some (.bool so) := (cell_of_row w5 sb _ kcs _ (0, 0) k1).trans c2
  have s3 : w5.cell? ⟨sb, 3, none⟩ = some (.int .i64 shi) := (cell_of_row w5 sb _ kcs _ (0, 0) k1).trans c3
  have s4 : w5.cell? ⟨sb, 4, none⟩ = some (.int .u64 slo) := (cell_of_row w5 sb _ kcs _ (0, 0) k1).trans c4
  have s5 : w5.cell? ⟨sb, 5, none⟩ = some (.int .i64 smn) := (cell_of_row w5 sb _ kcs _ (0, 0) k1).trans c5
  have s6 : w5.cell? ⟨sb, 6, none⟩ = some (.int .i64 smx) := (cell_of_row w5 sb _ kcs _ (0, 0) k1).trans c6
  have y0 : w5.cell? ⟨e0, 0, none⟩ = some (.slice (some A) k.length c) := (blk_cell hE5 0).trans rfl
  have y1 : w5.cell? ⟨e0, 1, none⟩ = some (.int .u64 ac) := (blk_cell hE5 1).trans rfl
  have y2 : w5.cell? ⟨e0, 2, none⟩ = some (.bool ao) := (blk_cell hE5 2).trans rfl
  have y3 : w5.cell? ⟨e0, 3, none⟩ = some (.int .i64 ah) := (blk_cell hE5 3).trans rfl
  have y4 : w5.cell? ⟨e0, 4, none⟩ = some (.int .u64 al) := (blk_cell hE5 4).trans rfl
  have y5 : w5.cell? ⟨e0, 5, none⟩ = some (.int .i64 an) := (blk_cell hE5 5).trans rfl
  have y6 : w5.cell? ⟨e0, 6, none⟩ = some (.int .i64 ax) := (blk_cell hE5 6).trans rfl
  rcases hmf : mergeF ⟨sc, so, shi, slo, smn, smx⟩ ⟨ac, ao, ah, al, an, ax⟩ with ⟨dc, dd, dh, dl, dn, dx⟩
  have HMF := Aside0.mk hmf
  have hbs0 : base ≤ sb := k5.2.2
  clear hmf k5 k3
  go_wp2_with fail
  go_region_with (first | (go_at_call 24; refine (merge_g (a := ⟨sc, so, shi, slo, smn, smx⟩) (b := ⟨ac, ao, ah, al, an, ax⟩) hfs.ok HA.out.ok).mono ?_; rintro e w6 ⟨rfl, hb6⟩; rw [HMF.out]; dsimp only [Ag.v]; have k6 := (hb6.block sb (blk_lt k1)).trans k1; have r1 : w6.cell? ⟨sb, 1, none⟩ = some (.int .u64 sc) := (cell_of_row w6 sb _ kcs _ (0, 0) k6).trans c1; have q1 := blk_frozen k6 1; have r2 : w6.cell? ⟨sb, 2, none⟩ = some (.bool so) := (cell_of_row w6 sb _ kcs _ (0, 0) k6).trans c2; have q2 := blk_frozen k6 2; have r3 : w6.cell? ⟨sb, 3, none⟩ = some (.int .i64 shi) := (cell_of_row w6 sb _ kcs _ (0, 0) k6).trans c3; have q3 := blk_frozen k6 3; have r4 : w6.cell? ⟨sb, 4, none⟩ = some (.int .u64 slo) := (cell_of_row w6 sb _ kcs _ (0, 0) k6).trans c4; have q4 := blk_frozen k6 4; have r5 : w6.cell? ⟨sb, 5, none⟩ = some (.int .i64 smn) := (cell_of_row w6 sb _ kcs _ (0, 0) k6).trans c5; have q5 := blk_frozen k6 5; have r6 : w6.cell? ⟨sb, 6, none⟩ = some (.int .i64 smx) := (cell_of_row w6 sb _ kcs _ (0, 0) k6).trans c6; have q6 := blk_frozen k6 6))
  all_goals
    have H6 : SkAt false w6 base L (P ++ ⟨sb, sh, sk, ⟨sc, so, shi, slo, smn, smx⟩⟩ :: S) := H5.out.move fun k cs e hk _ => hb6.block k (blk_lt hk)
    have hB6 := (below_drew hB5).trans (hb6.mono hB5.size)
    have hfin := put_merge H6 hB6 hbase HP.out HS.out HQ.out HA.out
    rw [HMF.out] at hfin
    go_wp2
    go_ret
    exact hfin
set_option maxHeartbeats 4000000 in
set_option maxRecDepth 100000 in
theorem put_ne {w : World} {base L c h : Nat} {A : Addr} {k : List Int} {av : Ag} {P S : List Nd} {s : Nd} (hbase : base ≤ w.heap.size) (hP : ∀ n ∈ P, lts n.k k = true) (hS : ∀ n ∈ (s :: S), lts n.k k = false) (heq : s.k ≠ k) (hsk : SkAt false w base L (P ++ (s :: S))) (hk : RdB w (some A) k) (hkc : k.length ≤ c) (hb : Byt k) (h0 : 0 < k.length) (h1 : k.length ≤ 256) (hh1 : 1 ≤ h) (hh2 : h ≤ 8) (hlen : (P ++ (s :: S)).length ≤ 1000)
    (hv : Gd av) (hfw : ∀ n ∈ P ++ (s :: S), Gd n.a) :
    Calls Try.prog 7 #[ptr L, entV (some A) k.length c (av), .int .i64 h] w (PutTo w base L (P ++ (s :: S)) k av) := by
  have HQ := Aside0.mk heq
  clear heq
  have HP := Aside0.mk hP
  have HS := Aside0.mk hS
  have ha := hv
  have ha0 : av.c ≠ 0 := hv.c0
  rcases hav : av with ⟨ac, ao, ah, al, an, ax⟩
  rw [hav] at ha ha0
  have HAV := Aside0.mk hav
  have HFW := Aside0.mk hfw
  have hac : (ac == 0) = false := beq_eq_false_iff_ne.2 ha0
  have hmm : an ≤ ax := ha.mm
  have HA := Aside0.mk ha
  have HK := Aside0.mk hk
  have H0 := Aside0.mk hsk
  have HV := Aside0.mk hv
  clear hav hfw hv
  have hB := (Below.refl w.heap.size w).alloc (Nat.le_refl _) (.cells #[.slice (some A) k.length c, .int .u64 ac, .bool ao, .int .i64 ah, .int .u64 al, .int .i64 an, .int .i64 ax] 36)
  have hE : (w.alloc (.cells #[.slice (some A) k.length c, .int .u64 ac, .bool ao, .int .i64 ah, .int .u64 al, .int .i64 an, .int .i64 ax] 36)).heap[w.heap.size]? = some (.cells #[.slice (some A) k.length c, .int .u64 ac, .bool ao, .int .i64 ah, .int .u64 al, .int .i64 an, .int .i64 ax] 36 (0, 0)) := al_new rfl
  have hsk1 := hsk.below (below_alloc (Below.refl _ _) (.cells #[.slice (some A) k.length c, .int .u64 ac, .bool ao, .int .i64 ah, .int .u64 al, .int .i64 an, .int .i64 ax] 36))
  have x17 : (w.alloc (.cells #[.slice (some A) k.length c, .int .u64 ac, .bool ao, .int .i64 ah, .int .u64 al, .int .i64 an, .int .i64 ax] 36)).cell? ⟨L, 17, none⟩ = some (.bool false) := by
    obtain ⟨cs, z, g1, g2, g3, g4, g5, g6⟩ := hsk1.hd
    exact (cell_of_row _ L _ cs _ (0, 0) g1).trans g6
  have d1 : decide ((h : Int) < 1) = false := decide_eq_false (by omega)
  have d2 : decide ((8 : Int) < (h : Int)) = false := decide_eq_false (by omega)
  have d3 : decide ((k.length : Int) < 1) = false := decide_eq_false (by omega)
  have d4 : decide ((256 : Int) < (k.length : Int)) = false := decide_eq_false (by omega)
  have H1 := Aside0.mk hsk1
  clear hP hS ha hk hsk hsk1
  unfold ptr entV
  go_enter Try.func7, Try.ntmps7
  go_wp2_with fail
  refine (right_gd (a := ⟨ac, ao, ah, al, an, ax⟩) HA.out).mono ?_
  rintro e w2 ⟨rfl, hb2⟩
  have H2 := Aside0.mk (H1.out.below hb2)
  have hE2 := (hb2.block _ (blk_lt hE)).trans hE
  have hB2 := hB.trans (hb2.mono hB.size)
  have HK2 : Aside0 (RdB w2 (some A) k) := ⟨HK.out.below (Below.mono hB2 (Nat.le_refl _))⟩
  have hes : w.heap.size ≤ w.heap.size := Nat.le_refl _
  generalize he0 : w.heap.size = e0 at hE2 hes
  have HE0 := Aside0.mk he0
  clear hb2 hE hB x17 H1
  have y0 : w2.cell? ⟨e0, 0, none⟩ = some (.slice (some A) k.length c) := (blk_cell hE2 0).trans rfl
  have y1 : w2.cell? ⟨e0, 1, none⟩ = some (.int .u64 ac) := (blk_cell hE2 1).trans rfl
  have y2 : w2.cell? ⟨e0, 2, none⟩ = some (.bool ao) := (blk_cell hE2 2).trans rfl
  have y3 : w2.cell? ⟨e0, 3, none⟩ = some (.int .i64 ah) := (blk_cell hE2 3).trans rfl
  have y4 : w2.cell? ⟨e0, 4, none⟩ = some (.int .u64 al) := (blk_cell hE2 4).trans rfl
  have y5 : w2.cell? ⟨e0, 5, none⟩ = some (.int .i64 an) := (blk_cell hE2 5).trans rfl
  have y6 : w2.cell? ⟨e0, 6, none⟩ = some (.int .i64 ax) := (blk_cell hE2 6).trans rfl
  go_wp2_with fail
  refine (find_c H2.out HK2.out hb HP.out HS.out).mono ?_
  rintro e w3 ⟨rfl, hb3⟩
  have H3 := H2.out.below hb3
  have hE3 := (hb3.block _ (blk_lt hE2)).trans hE2
  have hB3 := hB2.trans (hb3.mono hB2.size)
  have H4 := H3.below (below_alloc (Below.refl _ _) (.cells #[.pointer (some ⟨prd L 0 P, 0, none⟩), .pointer (some ⟨prd L 1 P, 0, none⟩), .pointer (some ⟨prd L 2 P, 0, none⟩), .pointer (some ⟨prd L 3 P, 0, none⟩), .pointer (some ⟨prd L 4 P, 0, none⟩), .pointer (some ⟨prd L 5 P, 0, none⟩), .pointer (some ⟨prd L 6 P, 0, none⟩), .pointer (some ⟨prd L 7 P, 0, none⟩)] 52))
  have hE4 : (w3.alloc (.cells #[.pointer (some ⟨prd L 0 P, 0, none⟩), .pointer (some ⟨prd L 1 P, 0, none⟩), .pointer (some ⟨prd L 2 P, 0, none⟩), .pointer (some ⟨prd L 3 P, 0, none⟩), .pointer (some ⟨prd L 4 P, 0, none⟩), .pointer (some ⟨prd L 5 P, 0, none⟩), .pointer (some ⟨prd L 6 P, 0, none⟩), .pointer (some ⟨prd L 7 P, 0, none⟩)] 52)).heap[e0]? = _ := al_old hE3 _
  have hG4 : (w3.alloc (.cells #[.pointer (some ⟨prd L 0 P, 0, none⟩), .pointer (some ⟨prd L 1 P, 0, none⟩), .pointer (some ⟨prd L 2 P, 0, none⟩), .pointer (some ⟨prd L 3 P, 0, none⟩), .pointer (some ⟨prd L 4 P, 0, none⟩), .pointer (some ⟨prd L 5 P, 0, none⟩), .pointer (some ⟨prd L 6 P, 0, none⟩), .pointer (some ⟨prd L 7 P, 0, none⟩)] 52)).heap[w3.heap.size]? = some (.cells #[.pointer (some ⟨prd L 0 P, 0, none⟩), .pointer (some ⟨prd L 1 P, 0, none⟩), .pointer (some ⟨prd L 2 P, 0, none⟩), .pointer (some ⟨prd L 3 P, 0, none⟩), .pointer (some ⟨prd L 4 P, 0, none⟩), .pointer (some ⟨prd L 5 P, 0, none⟩), .pointer (some ⟨prd L 6 P, 0, none⟩), .pointer (some ⟨prd L 7 P, 0, none⟩)] 52 (0, 0)) := al_new rfl
  have hB4 := hB3.alloc hB3.size (.cells #[.pointer (some ⟨prd L 0 P, 0, none⟩), .pointer (some ⟨prd L 1 P, 0, none⟩), .pointer (some ⟨prd L 2 P, 0, none⟩), .pointer (some ⟨prd L 3 P, 0, none⟩), .pointer (some ⟨prd L 4 P, 0, none⟩), .pointer (some ⟨prd L 5 P, 0, none⟩), .pointer (some ⟨prd L 6 P, 0, none⟩), .pointer (some ⟨prd L 7 P, 0, none⟩)] 52)
  have nx : (w3.alloc (.cells #[.pointer (some ⟨prd L 0 P, 0, none⟩), .pointer (some ⟨prd L 1 P, 0, none⟩), .pointer (some ⟨prd L 2 P, 0, none⟩), .pointer (some ⟨prd L 3 P, 0, none⟩), .pointer (some ⟨prd L 4 P, 0, none⟩), .pointer (some ⟨prd L 5 P, 0, none⟩), .pointer (some ⟨prd L 6 P, 0, none⟩), .pointer (some ⟨prd L 7 P, 0, none⟩)] 52)).cell? ⟨prd L 0 P, 7, none⟩ = some (nxt 0 (s :: S)) := H4.pnext (i := 0) (by omega)
  have hg7 : w.heap.size ≤ w3.heap.size := hB3.size
  unfold Eight ptr
  generalize hw4 : w3.alloc (.cells #[.pointer (some ⟨prd L 0 P, 0, none⟩), .pointer (some ⟨prd L 1 P, 0, none⟩), .pointer (some ⟨prd L 2 P, 0, none⟩), .pointer (some ⟨prd L 3 P, 0, none⟩), .pointer (some ⟨prd L 4 P, 0, none⟩), .pointer (some ⟨prd L 5 P, 0, none⟩), .pointer (some ⟨prd L 6 P, 0, none⟩), .pointer (some ⟨prd L 7 P, 0, none⟩)] 52) = w4 at H4 hE4 hG4 hB4 nx
  generalize hg : w3.heap.size = g7 at hG4 hg7
  have HW4 := Aside0.mk hw4
  have HG7 := Aside0.mk hg
  have H4' := Aside0.mk H4
  clear H4 H3 hE3 hB3 hb3 H2 hE2 hB2 y0 y1 y2 y3 y4 y5 y6
  have y0 : w4.cell? ⟨e0, 0, none⟩ = some (.slice (some A) k.length c) := (blk_cell hE4 0).trans rfl
  have y1 : w4.cell? ⟨e0, 1, none⟩ = some (.int .u64 ac) := (blk_cell hE4 1).trans rfl
  have y2 : w4.cell? ⟨e0, 2, none⟩ = some (.bool ao) := (blk_cell hE4 2).trans rfl
  have y3 : w4.cell? ⟨e0, 3, none⟩ = some (.int .i64 ah) := (blk_cell hE4 3).trans rfl
  have y4 : w4.cell? ⟨e0, 4, none⟩ = some (.int .u64 al) := (blk_cell hE4 4).trans rfl
  have y5 : w4.cell? ⟨e0, 5, none⟩ = some (.int .i64 an) := (blk_cell hE4 5).trans rfl
  have y6 : w4.cell? ⟨e0, 6, none⟩ = some (.int .i64 ax) := (blk_cell hE4 6).trans rfl
  have g0 : w4.cell? ⟨g7, 0, none⟩ = some (.pointer (some ⟨prd L 0 P, 0, none⟩)) := (blk_cell hG4 0).trans rfl
  have h1s : 0 < s.h := by
    have := (H4'.out.ht s (by simp)).1
    omega
  replace nx : w4.cell? ⟨prd L 0 P, 7, none⟩ = some (.pointer (some ⟨s.b, 0, none⟩)) := by
    rw [nx]
    show some (if 0 < s.h then ptr s.b else _) = _
    rw [if_pos h1s]
    rfl
  obtain ⟨As, cs, xs, HKs, hcs⟩ := H4'.out.key (A := P) (B := S) (n := s)
  have hbs := (H4'.out.ky s (by simp)).1
  have HKs' := Aside0.mk HKs
  have HK4 : Aside0 (RdB w4 (some A) k) := ⟨HK.out.below (Below.mono hB4 (Nat.le_refl _))⟩
  clear HKs
  go_wp2_with fail
  go_quiet ((go_at_call 23; exact Calls.quiet_of (equal_c (r := false) (HKs'.out.drewN _) (HK4.out.drewN _) hcs hkc hbs hb (decide_eq_false HQ.out).symm)))
  have hEq : (.cells #[.pointer (some ⟨prd L 0 P, 0, none⟩), .pointer (some ⟨prd L 1 P, 0, none⟩), .pointer (some ⟨prd L 2 P, 0, none⟩), .pointer (some ⟨prd L 3 P, 0, none⟩), .pointer (some ⟨prd L 4 P, 0, none⟩), .pointer (some ⟨prd L 5 P, 0, none⟩), .pointer (some ⟨prd L 6 P, 0, none⟩), .pointer (some ⟨prd L 7 P, 0, none⟩)] 52 (0, 0) : Obj) = .cells (Eight L P) 52 (0, 0) := rfl
  have H5 : Aside0 (SkAt false (w4.drewN nq) base L (P ++ s :: S)) := ⟨H4'.out.below (pw_below_drewN (Below.refl _ _) nq)⟩
  have hE5 : (w4.drewN nq).heap[e0]? = _ := hE4
  have hG5 : (w4.drewN nq).heap[g7]? = some (.cells (Eight L P) 52 (0, 0)) := hG4
  have hB5 := pw_below_drewN hB4 nq
  have HK5 : Aside0 (RdB (w4.drewN nq) (some A) k) := ⟨HK.out.below (Below.mono hB5 (Nat.le_refl _))⟩
  have HNE : Aside0 (∀ n ∈ (s :: S : List Nd), n.k ≠ k) := ⟨head_ne (by have := H4'.out.srt; rw [List.pairwise_append] at this; exact this.2.1) HS.out HQ.out⟩
  have HS' : Aside0 (∀ n ∈ (s :: S : List Nd), lts n.k k = false) := HS
  have H0' : Aside0 (SkAt false w base L (P ++ s :: S)) := H0
  have hlen' : (P ++ s :: S).length ≤ 1000 := hlen
  generalize hw5 : w4.drewN nq = w5 at H5 hE5 hG5 hB5 HK5 ⊢
  have HW5 := Aside0.mk hw5
  clear hw5 nx xs g0 hE4 hG4 hB4 hEq y0 y1 y2 y3 y4 y5 y6
  generalize hSS : (s :: S : List Nd) = S' at HNE HS' H0' hlen' H5
  have HSS := Aside0.mk hSS
  clear hSS
  have x15 : w5.cell? ⟨L, 15, none⟩ = some (.int .i64 ((P ++ S').length : Nat)) := by
    obtain ⟨cs, z, g1, g2, g3, g4, g5, g6⟩ := H5.out.hd
    exact (cell_of_row _ L _ cs _ (0, 0) g1).trans g4
  generalize hN : (P ++ S').length = N at x15 hlen'
  have HN := Aside0.mk hN
  clear hN
  have d5 : decide ((4096 : Int) ≤ (N : Int)) = false := decide_eq_false (by omega)
  have y0 : w5.cell? ⟨e0, 0, none⟩ = some (.slice (some A) k.length c) := (blk_cell hE5 0).trans rfl
  have y1 : w5.cell? ⟨e0, 1, none⟩ = some (.int .u64 ac) := (blk_cell hE5 1).trans rfl
  have y2 : w5.cell? ⟨e0, 2, none⟩ = some (.bool ao) := (blk_cell hE5 2).trans rfl
  have y3 : w5.cell? ⟨e0, 3, none⟩ = some (.int .i64 ah) := (blk_cell hE5 3).trans rfl
  have y4 : w5.cell? ⟨e0, 4, none⟩ = some (.int .u64 al) := (blk_cell hE5 4).trans rfl
  have y5 : w5.cell? ⟨e0, 5, none⟩ = some (.int .i64 an) := (blk_cell hE5 5).trans rfl
  have y6 : w5.cell? ⟨e0, 6, none⟩ = some (.int .i64 ax) := (blk_cell hE5 6).trans rfl
  go_wp2_with fail
  go_region_held3 (fun w' => w'.cell? ⟨e0, 0, none⟩ = some (.slice (some A) k.length c) ∧ w'.cell? ⟨e0, 1, none⟩ = some (.int .u64 ac) ∧ w'.cell? ⟨e0, 2, none⟩ = some (.bool ao) ∧ w'.cell? ⟨e0, 3, none⟩ = some (.int .i64 ah) ∧ w'.cell? ⟨e0, 4, none⟩ = some (.int .u64 al) ∧ w'.cell? ⟨e0, 5, none⟩ = some (.int .i64 an) ∧ w'.cell? ⟨e0, 6, none⟩ = some (.int .i64 ax)) (first | exact ⟨by assumption, by assumption, by assumption, by assumption, by assumption, by assumption, by assumption⟩ | go_keep) (first | (go_at_call 25; refine (clone_c (RdB.drewN HK5.out 1) h0 (by omega)).mono ?_; rintro e w6 ⟨kv, rfl, hown, hb6⟩; obtain ⟨Ak, ck, rfl, _, _⟩ := own_rdb hown; have hE6 := (hb6.block e0 (blk_lt hE5)).trans hE5; have z0 : w6.cell? ⟨e0, 0, none⟩ = some (.slice (some A) k.length c) := (blk_cell hE6 0).trans rfl; have z1 : w6.cell? ⟨e0, 1, none⟩ = some (.int .u64 ac) := (blk_cell hE6 1).trans rfl; have z2 : w6.cell? ⟨e0, 2, none⟩ = some (.bool ao) := (blk_cell hE6 2).trans rfl; have z3 : w6.cell? ⟨e0, 3, none⟩ = some (.int .i64 ah) := (blk_cell hE6 3).trans rfl; have z4 : w6.cell? ⟨e0, 4, none⟩ = some (.int .u64 al) := (blk_cell hE6 4).trans rfl; have z5 : w6.cell? ⟨e0, 5, none⟩ = some (.int .i64 an) := (blk_cell hE6 5).trans rfl; have z6 : w6.cell? ⟨e0, 6, none⟩ = some (.int .i64 ax) := (blk_cell hE6 6).trans rfl))
  have hX : ∀ kk, kk < w5.heap.size → (w6.alloc (.cells #[.slice Ak k.length ck, .int .u64 ac, .bool ao, .int .i64 ah, .int .u64 al, .int .i64 an, .int .i64 ax, .pointer none, .pointer none, .pointer none, .pointer none, .pointer none, .pointer none, .pointer none, .pointer none] 54)).heap[kk]? = w5.heap[kk]? := fun kk hk => (Below.heap_alloc _ _ kk (Nat.lt_of_lt_of_le hk hb6.size)).trans (hb6.block kk hk)
  have hown8 : (w6.alloc (.cells #[.slice Ak k.length ck, .int .u64 ac, .bool ao, .int .i64 ah, .int .u64 al, .int .i64 an, .int .i64 ax, .pointer none, .pointer none, .pointer none, .pointer none, .pointer none, .pointer none, .pointer none, .pointer none] 54)).ownsRow base 5 1 (.slice Ak k.length ck) k.length (nums .u8 k) := own_low (own_move hown (fun k hk => Below.heap_alloc _ _ k (by obtain ⟨cs, hc⟩ := own_typed hown k hk; exact blk_lt hc))) (Nat.le_trans hbase hB5.size)
  have hmid : SkM false (w6.alloc (.cells #[.slice Ak k.length ck, .int .u64 ac, .bool ao, .int .i64 ah, .int .u64 al, .int .i64 an, .int .i64 ax, .pointer none, .pointer none, .pointer none, .pointer none, .pointer none, .pointer none, .pointer none, .pointer none] 54)) base L P S' w6.heap.size 0 k ⟨ac, ao, ah, al, an, ax⟩ (P ++ S').length := SkM.start H5.out hX hb6.size (Nat.le_trans hbase hB5.size) (al_new rfl) hown8
  have hE8 := al_old hE6 (.cells #[.slice Ak k.length ck, .int .u64 ac, .bool ao, .int .i64 ah, .int .u64 al, .int .i64 an, .int .i64 ax, .pointer none, .pointer none, .pointer none, .pointer none, .pointer none, .pointer none, .pointer none, .pointer none] 54)
  have hG8 := al_old ((hb6.block g7 (blk_lt hG5)).trans hG5) (.cells #[.slice Ak k.length ck, .int .u64 ac, .bool ao, .int .i64 ah, .int .u64 al, .int .i64 an, .int .i64 ax, .pointer none, .pointer none, .pointer none, .pointer none, .pointer none, .pointer none, .pointer none, .pointer none] 54)
  have hB8 := ((below_drew hB5).trans (hb6.mono hB5.size)).alloc (Nat.le_trans hB5.size hb6.size) (.cells #[.slice Ak k.length ck, .int .u64 ac, .bool ao, .int .i64 ah, .int .u64 al, .int .i64 an, .int .i64 ax, .pointer none, .pointer none, .pointer none, .pointer none, .pointer none, .pointer none, .pointer none, .pointer none] 54)
  have hgs8 := Gs.of_below hB8
  have hb8 := hB8.mono (Nat.le_trans (Nat.min_le_left base L) hbase)
  clear hX hown8 hB8 hG5 hE5 hE6 hb6 hown x15 y0 y1 y2 y3 y4 y5 y6
  generalize w6.alloc (.cells #[.slice Ak k.length ck, .int .u64 ac, .bool ao, .int .i64 ah, .int .u64 al, .int .i64 an, .int .i64 ax, .pointer none, .pointer none, .pointer none, .pointer none, .pointer none, .pointer none, .pointer none, .pointer none] 54) = w8 at hmid hE8 hG8 hgs8 hb8 ⊢
  generalize w6.heap.size = nb at hmid ⊢
  go_wp2_with fail
  go_loopw [92] (fun iv wr => ∃ j : Nat, j ≤ h ∧ iv = .int .i64 j ∧ SkM false wr base L P S' nb j k ⟨ac, ao, ah, al, an, ax⟩ (P ++ S').length ∧ wr.heap[e0]? = some (.cells #[.slice (some A) k.length c, .int .u64 ac, .bool ao, .int .i64 ah, .int .u64 al, .int .i64 an, .int .i64 ax] 36 (0, 0)) ∧ wr.heap[g7]? = some (.cells (Eight L P) 52 (0, 0)) ∧ Gs w wr ∧ Below (min base L) w wr) (fun iv _ => h - (intOf iv).toNat)
  case atStart => exact ⟨0, by omega, rfl, hmid, hE8, hG8, hgs8, hb8⟩
  case round =>
    clear hmid hE8 hG8 hgs8 hb8
    obtain ⟨j, hj, rfl, hM, hE9, hG9, hgs, hbl⟩ := hrel
    by_cases hlt : j < h
    · have hj8 : j < 8 := by omega
      have t1 : decide (j < h) = true := decide_eq_true hlt
      have gj : wr.cell? ⟨g7, j, none⟩ = some (.pointer (some ⟨prd L j P, 0, none⟩)) := (cell_of_row wr g7 _ _ _ (0, 0) hG9).trans (eight_get L P j hj8)
      obtain ⟨qn, ⟨csq, tq, hq, _⟩, hqn, _, _⟩ := hM.prd_cell hj8
      obtain ⟨csn, kv, hn1, hn2, _⟩ := NsAt.at hM.nodes
      have hn1 : wr.heap[nb]? = some (.cells csn 54 (0, 0)) := hn1
      obtain ⟨v0, hv0⟩ : ∃ v, wr.cell? ⟨nb, 7 + j, none⟩ = some v := ⟨_, (cell_of_row wr nb _ csn _ (0, 0) hn1).trans (Array.getElem?_eq_getElem (by omega))⟩
      have f1 : wr.frozen? ⟨nb, 7 + j, none⟩ = false := blk_frozen hn1 _
      have f2 : wr.frozen? ⟨prd L j P, 7 + j, none⟩ = false := blk_frozen hq _
      have hst := hM.step hj8
      have hsg := hM.step_gs hj8
      have HNB := Aside0.mk hM
      have qn2 : (wr.setCell ⟨nb, 7 + j, none⟩ (nxt j S')).cell? ⟨prd L j P, 7 + j, none⟩ = some (nxt j S') := (cell_of_row _ _ _ csq _ (0, 0) ((Below.heap_setCell _ _ _ _ hqn).trans hq)).trans ((cell_of_row wr _ _ csq _ (0, 0) hq).symm.trans qn)
      unfold ptr at hst hsg
      obtain ⟨pp, hpp⟩ := nxt_ptr j S'
      rw [hpp] at qn qn2 hst hsg
      have hj8' : (j : Int) < 8 := by omega
      clear hM
      go_wp2_with fail
      go_region
      all_goals
        have hE10 := hsg.1.2 _ _ hE9 (fun cs e => by simp at e) (fun cs e => by simp at e)
        have hG10 := hsg.1.2 _ _ hG9 (fun cs e => by simp at e) (fun cs e => by simp at e)
        have hgs10 := hgs.trans hsg.1
        have hbl10 := hbl.trans (hsg.2.mono (Nat.le_refl _))
        clear gj qn qn2 hE9 hG9 hgs hbl hn1 hn2 f1 f2 hv0 HNB hq hqn
        go_wp2
        go_roundw
        case rel => exact ⟨j + 1, by omega, by go_num, hst.move (fun _ _ _ _ _ => rfl), hE10, hG10, ⟨hgs10.1, hgs10.2⟩, below_drew hbl10⟩
        case measure => simp [intOf]; omega
    · have t1 : decide (j < h) = false := decide_eq_false hlt
      obtain rfl : j = h := by omega
      have hM1 := hM.setL (((P ++ S').length + 1 : Nat) : Int)
      rw [HN.out] at hM1
      obtain ⟨csL, z, hcsL, x15, x16⟩ : ∃ cs z, wr.heap[L]? = some (.cells cs 56 (0, 0)) ∧ wr.cell? ⟨L, 15, none⟩ = some (.int .i64 (N : Int)) ∧ wr.cell? ⟨L, 16, none⟩ = some (.int .i64 z) := by
        obtain ⟨cs, z, g1, g2, g3, g4, g5, g6⟩ := hM.hd
        rw [HN.out] at g4
        exact ⟨cs, z, g1, (cell_of_row _ L _ cs _ (0, 0) g1).trans g4, (cell_of_row _ L _ cs _ (0, 0) g1).trans g5⟩
      have f15 : wr.frozen? ⟨L, 15, none⟩ = false := blk_frozen hcsL _
      have hg1 : Gs wr (wr.setCell ⟨L, 15, none⟩ (.int .i64 ((N + 1 : Nat) : Int))) := Gs.far (X := L) (fun kk hk => Below.heap_setCell _ _ _ _ hk) (by simp [World.setCell]) hcsL (.inr rfl)
      have hb1 := hbl.setCell (p := ⟨L, 15, none⟩) (Nat.min_le_right base L) (.int .i64 ((N + 1 : Nat) : Int))
      have hE10 := hg1.2 _ _ hE9 (fun cs e => by simp at e) (fun cs e => by simp at e)
      have hL10 : (wr.setCell ⟨L, 15, none⟩ (.int .i64 ((N + 1 : Nat) : Int))).heap[L]? = some (.cells (csL.setIfInBounds 15 (.int .i64 ((N + 1 : Nat) : Int))) 56 (0, 0)) := blk_put hcsL 15 _ rfl
      have y16 : (wr.setCell ⟨L, 15, none⟩ (.int .i64 ((N + 1 : Nat) : Int))).cell? ⟨L, 16, none⟩ = some (.int .i64 z) := by
        obtain ⟨cs2, z2, g1, g2, g3, g4, g5, g6⟩ := hM.hd
        rw [cell_of_row _ L _ _ _ (0, 0) hL10, Array.getElem?_setIfInBounds, if_neg (by omega), ← x16, cell_of_row _ L _ _ _ (0, 0) hcsL]
      have hgs1 := hgs.trans hg1
      have HLb := Aside0.mk (Nat.min_le_right base L)
      have hN1 : ((N + 1 : Nat) : Int) = (N : Int) + 1 := by omega
      rw [hN1] at hM1 hg1 hb1 hE10 hL10 y16 hgs1
      have HM1 := Aside0.mk hM1
      have HGS := Aside0.mk hgs1
      have HN1 := Aside0.mk hN1
      clear hM hM1 hE9 hG9 x16 hg1 hgs1 hgs hbl hN1
      go_wp2_with fail
      generalize wr.setCell ⟨L, 15, none⟩ (.int .i64 ((N : Int) + 1)) = W9 at HM1 hb1 hE10 hL10 y16 HGS ⊢
      have y0 : W9.cell? ⟨e0, 0, none⟩ = some (.slice (some A) k.length c) := (blk_cell hE10 0).trans rfl
      have f16 : W9.frozen? ⟨L, 16, none⟩ = false := blk_frozen hL10 _
      clear hE10 x15 f15 hcsL
      go_region
      all_goals
        go_wp2
        go_ret
        rw [HSS.out]
        refine put_new (nb := nb) ?_ H0'.out ?_ (below_drew (hb1.setCell (p := ⟨L, 16, none⟩) HLb.out _)) (by omega) hh2 ⟨hb, h0, h1⟩ HP.out HS'.out HNE.out HA.out
        · rw [HN.out, HN1.out]
          exact (HM1.out.setZ _).move (fun _ _ _ _ _ => rfl)
        · have hx := HGS.out.trans (Gs.far (w1 := W9.setCell ⟨L, 16, none⟩ (.int .i64 (wrap64 (z + (↑k.length + 41))))) (X := L) (fun kk hk => Below.heap_setCell _ _ _ _ hk) (by simp [World.setCell]) hL10 (.inr rfl))
          exact ⟨hx.1, hx.2⟩
set_option maxHeartbeats 4000000 in
set_option maxRecDepth 100000 in
theorem put_c {w : World} {base L c h : Nat} {A : Addr} {k : List Int} {av : Ag} {ns : List Nd} (hbase : base ≤ w.heap.size) (hsk : SkAt false w base L ns) (hk : RdB w (some A) k) (hkc : k.length ≤ c) (hb : Byt k) (h0 : 0 < k.length) (h1 : k.length ≤ 256) (hh1 : 1 ≤ h) (hh2 : h ≤ 8) (hlen : ns.length ≤ 1000)
    (hv : Gd av) (hfw : ∀ n ∈ ns, Gd n.a) :
    Calls Try.prog 7 #[ptr L, entV (some A) k.length c (av), .int .i64 h] w (PutTo w base L ns k av) := by
  obtain ⟨P, S, rfl, hP, hS⟩ := part k ns hsk.srt
  cases S with
  | nil => exact put_nil hbase hP hS hsk hk hkc hb h0 h1 hh1 hh2 hlen hv hfw
  | cons s S =>
    by_cases heq : s.k = k
    · exact put_eq hbase hP hS heq hsk hk hkc hb h0 h1 hh1 hh2 hlen hv hfw
    · exact put_ne hbase hP hS heq hsk hk hkc hb h0 h1 hh1 hh2 hlen hv hfw
end Go.Proofs.Ythabkdbhjioalaa.Top
