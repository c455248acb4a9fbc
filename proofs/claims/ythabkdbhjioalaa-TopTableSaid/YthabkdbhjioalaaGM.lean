/-
  All pairs of a row as a sequence; conditions: those that each theorem states.
-/
import Derived.Test.YthabkdbhjioalaaGL
import Derived.Test.YthabkdbhjioalaaGI
import Derived.Test.YthabkdbhjioalaaGB
namespace Go.Proofs.Ythabkdbhjioalaa.Top
set_option linter.unusedSimpArgs false
set_option linter.unusedVariables false
open Go.RowKit Go.Proofs.YthabkdbhjioalaaW.PrintWords Go.Proofs.YthabkdbhjioalaaW.PrintLast Go.Proofs.YthabkdbhjioalaaW.PrintMore Go.Proofs.Ythabkdbhjioalaa.Plain Go.Proofs.Ythabkdbhjioalaa.Fns
/-- Bytes, and boxes of bytes, are kept. -/
def Kb (A B : World) : Prop := A.heap.size ≤ B.heap.size ∧ ∀ (k : Nat) (cs : Array Value) (e : TypeId), A.heap[k]? = some (.cells cs e (0, 0)) → (e = 5 ∨ e = 23) → B.heap[k]? = A.heap[k]?
theorem Kb.trans {A B C : World} (h : Kb A B) (k : Kb B C) : Kb A C := ⟨Nat.le_trans h.1 k.1, fun b cs e hb he => (k.2 b cs e ((h.2 b cs e hb he).trans hb) he).trans (h.2 b cs e hb he)⟩
theorem Kb.of_below {A B : World} (h : Below A.heap.size A B) : Kb A B := ⟨h.size, fun b cs e hb _ => h.block b (blk_lt hb)⟩
theorem Kb.put {W : World} {l : Nat} {o o' : Obj} (hl : W.heap[l]? = some o) (ho : o.isCells = false) : Kb W (W.putObj l o') := ⟨Nat.le_of_eq (put_size W l o').symm, fun k cs e hk _ => put_far hl ho hk⟩
theorem Kb.row {n₀ n : Nat} {A B : World} {v : Value} {xs : List Value} (h : Kb A B) (hx : A.ownsRow n₀ 5 1 v n xs) : B.ownsRow n₀ 5 1 v n xs := own_move hx fun k hk => by
  obtain ⟨cs, hc⟩ := own_typed hx k hk
  exact h.2 k cs _ hc (.inl rfl)
theorem Kb.pr {n₀ : Nat} {A B : World} {p : Pr} (h : Kb A B) (hp : POwn n₀ A p) : POwn n₀ B p := ⟨h.row hp.k, h.row hp.v, hp.kc, hp.vc⟩
/-- And the variable that was made last. -/
def Kbm (m : Nat) (A B : World) : Prop := Kb A B ∧ ∀ (cs : Array Value) (e : TypeId), A.heap[m]? = some (.cells cs e (0, 0)) → B.heap[m]? = A.heap[m]?
theorem Kbm.trans {m : Nat} {A B C : World} (h : Kbm m A B) (k : Kbm m B C) : Kbm m A C := ⟨h.1.trans k.1, fun cs e hb => (k.2 cs e ((h.2 cs e hb).trans hb)).trans (h.2 cs e hb)⟩
theorem Kbm.of_below {m : Nat} {A B : World} (h : Below A.heap.size A B) : Kbm m A B := ⟨Kb.of_below h, fun cs e hb => h.block m (blk_lt hb)⟩
theorem Kbm.put {m : Nat} {W : World} {l : Nat} {o o' : Obj} (hl : W.heap[l]? = some o) (ho : o.isCells = false) : Kbm m W (W.putObj l o') := ⟨Kb.put hl ho, fun cs e hk => put_far hl ho hk⟩
/-- A row of bytes whose block is the same. -/
theorem rdb_blk {A B : World} {a : Addr} {l : List Int} (h : RdB A (some a) l) (hb : B.heap[a.block]? = A.heap[a.block]?) : RdB B (some a) l :=
  ⟨h.1, h.2.1, fun hn => by
    obtain ⟨ad, e, hc⟩ := h.2.2 hn
    cases e
    refine ⟨a, rfl, fun j p hj => ?_⟩
    obtain ⟨c, hs, hr, hcell⟩ := hc j p hj
    refine ⟨c, hs, hr, fun i u hu => ?_⟩
    have hbb : (a.add (j * (Kd.int .u8).sz + i)).block = a.block := by unfold Addr.add; split <;> rfl
    exact (World.cell?_of_block (w := A) (w' := B) (by rw [hbb]; exact hb)).trans (hcell i u hu)⟩
/-- What is known of the pairs that came. -/
def PCame (kvs : List (List Int × List Int)) (n₀ : Nat) (xs : List Pr) (W : World) : Prop := xs.map Pr.kv <+: kvs ∧ ∀ x ∈ xs, POwn n₀ W x
theorem PCame.kb {kvs : List (List Int × List Int)} {n₀ : Nat} {xs : List Pr} {A B : World} (h : PCame kvs n₀ xs A) (hk : Kb A B) : PCame kvs n₀ xs B := ⟨h.1, fun x hx => hk.pr (h.2 x hx)⟩
/-- Pairs that a row may hold. -/
structure KvOk (kvs : List (List Int × List Int)) : Prop where
  k : ∀ x ∈ kvs, Byt x.1 ∧ 1 ≤ x.1.length ∧ x.1.length ≤ 4096
  v : ∀ x ∈ kvs, Byt x.2 ∧ 1 ≤ x.2.length ∧ x.2.length ≤ 4096
  s : (kvs.map Prod.fst).Pairwise (fun a b => lts a b = true)
  n : kvs.length ≤ 4096
theorem byt_drop {l : List Int} (h : Byt l) (n : Nat) : Byt (l.drop n) := fun x hx => h x (List.mem_of_mem_drop hx)
theorem pairB_byt {i : Nat} {last k v : List Int} (hk : Byt k) (hv : Byt v) : Byt (pairB i last k v) := by
  unfold pairB
  exact byt_app (byt_app (byt_app (byt_app (sh_byt _) (sh_byt _)) (sh_byt _)) (byt_drop hk _)) hv
theorem rowB_byt : ∀ (kvs : List (List Int × List Int)) (i : Nat) (last : List Int), (∀ x ∈ kvs, Byt x.1 ∧ Byt x.2) → Byt (rowB i last kvs)
  | [], _, _, _ => fun x hx => by cases hx
  | x :: r, i, last, h => byt_app (pairB_byt (h x (by simp)).1 (h x (by simp)).2) (rowB_byt r (i + 1) x.1 (fun y hy => h y (by simp [hy])))
theorem sh_pos (n : Nat) : 1 ≤ (sh n).length := by
  rw [sh]
  split <;> simp
theorem pairB_pos (i : Nat) (last k v : List Int) : 1 ≤ (pairB i last k v).length := by
  have := sh_pos (comN i last k)
  unfold pairB
  simp only [List.length_append]
  omega
theorem rowB_drop : ∀ (ds es : List (List Int × List Int)) (i : Nat) (last : List Int), (rowB (i + ds.length) ((ds.map Prod.fst).getLastD last) es).length ≤ (rowB i last (ds ++ es)).length
  | [], es, i, last => by simp
  | d :: ds, es, i, last => by
    have := rowB_drop ds es (i + 1) d.1
    rw [List.cons_append, rowB, List.length_append, List.length_cons, List.map_cons]
    have e : (d.1 :: ds.map Prod.fst).getLastD last = (ds.map Prod.fst).getLastD d.1 := by cases ds <;> simp [List.getLastD]
    rw [e, show i + (ds.length + 1) = i + 1 + ds.length by omega]
    omega
theorem last_lt {ds es : List (List Int × List Int)} {x : List Int × List Int} (h : ((ds ++ x :: es).map Prod.fst).Pairwise (fun a b => lts a b = true)) (h0 : 0 < ds.length) : lts ((ds.map Prod.fst).getLastD []) x.1 = true := by
  rw [List.map_append, List.map_cons, List.pairwise_append] at h
  refine h.2.2 _ ?_ x.1 (by simp)
  have hne : ds.map Prod.fst ≠ [] := by intro e; rw [List.map_eq_nil_iff] at e; subst e; simp at h0
  have : (ds.map Prod.fst).getLastD [] = (ds.map Prod.fst).getLast hne := by rw [List.getLastD_eq_getLast?, List.getLast?_eq_some_getLast hne]; rfl
  rw [this]
  exact List.getLast_mem hne
theorem last_ok {kvs ds es : List (List Int × List Int)} (hE : kvs = ds ++ es) (h : KvOk kvs) : Byt ((ds.map Prod.fst).getLastD []) ∧ ((ds.map Prod.fst).getLastD []).length ≤ 4096 := by
  by_cases h0 : ds.map Prod.fst = []
  · rw [h0]
    exact ⟨fun x hx => (by cases hx), by simp⟩
  · have : (ds.map Prod.fst).getLastD [] = (ds.map Prod.fst).getLast h0 := by rw [List.getLastD_eq_getLast?, List.getLast?_eq_some_getLast h0]; rfl
    rw [this]
    obtain ⟨x, hx, he⟩ := List.mem_map.1 (List.getLast_mem h0)
    rw [← he]
    have := h.k x (by rw [hE]; simp [hx])
    exact ⟨this.1, this.2.2⟩
theorem StepB.of_below {Ba : Nat} {A B : World} (h : Below A.heap.size A B) : StepB Ba A B := ⟨h.os, h.tape, h.output, h.size, fun k hk _ => h.block k hk⟩
theorem pcame_snoc {kvs ds es : List (List Int × List Int)} {n₀ : Nat} {xs : List Pr} {wr w2 : World} {pA pB : Addr} {pc pd : Nat} {pk pv : List Int} (hE : kvs = ds ++ (pk, pv) :: es) (hX : xs.map Pr.kv = ds ∧ ∀ x ∈ xs, POwn n₀ wr x) (hz : n₀ ≤ wr.heap.size) (hb : Below wr.heap.size wr w2) (h : POwn wr.heap.size w2 ⟨pA, pk, pc, pB, pv, pd⟩) (o : Obj) :
    PCame kvs n₀ (xs ++ [⟨pA, pk, pc, pB, pv, pd⟩]) (w2.alloc o) := by
  refine ⟨⟨es, by rw [hE, List.map_append, hX.1]; simp [Pr.kv]⟩, fun x hx => ?_⟩
  rcases List.mem_append.1 hx with hx | hx
  · exact ((hX.2 x hx).below hb).below ((Below.refl _ _).alloc (Nat.le_refl _) _)
  · obtain rfl := List.mem_singleton.1 hx
    have h' : POwn n₀ w2 ⟨pA, pk, pc, pB, pv, pd⟩ := ⟨own_low h.k hz, own_low h.v hz, h.kc, h.vc⟩
    exact h'.below ((Below.refl _ _).alloc (Nat.le_refl _) _)
theorem pairs_c (w : World) (A : Option Addr) (m c : Nat) : Calls Try.prog 60 #[.slice A m c] w fun e w' => e = .returned (.func (.func 74) #[] #[.pointer (some ⟨w.heap.size, 0, none⟩)]) ∧ w' = w.alloc (.cells #[.slice A m c] 23) := by
  go_enter Try.func60, Try.ntmps60
  go_wp2
  go_ret
  exact ⟨rfl, rfl⟩
set_option maxRecDepth 100000 in
set_option maxHeartbeats 4000000 in
theorem pairs1 {n : Nat} (hn : 3 ≤ n) {w : World} {B1 n₀ c : Nat} {a : Addr} {kvs : List (List Int × List Int)} (hr : RdB w (some a) (rowB 0 [] kvs)) (hty : ∃ cs, w.heap[a.block]? = some (.cells cs 5 (0, 0))) (hc : (rowB 0 [] kvs).length ≤ c) (hk : KvOk kvs) (hL : (rowB 0 [] kvs).length ≤ 1000000)
    (h1 : w.heap[B1]? = some (.cells #[.slice (some a) (rowB 0 [] kvs).length c] 23 (0, 0))) (hn0 : n₀ ≤ w.heap.size) :
    SeqB Fence.wide n Try.prog 74 #[.pointer (some ⟨B1, 0, none⟩)] (fun x : Pr => #[x.val, .bool true]) Kbm (StepB B1) (fun pre x W => PCame kvs n₀ (pre ++ [x]) W ∧ W.heap[W.heap.size - 1]? = some (.cells #[.slice (some x.A) x.k.length x.c, .slice (some x.B) x.v.length x.d] 75 (0, 0)))
      (fun xs W => xs.map Pr.kv = kvs ∧ ∀ x ∈ xs, POwn n₀ W x) w := fun l J Jx W hW hJ hJx hY h0 => by
  obtain ⟨cs0, hcs0⟩ := hty
  have hB := (hW.block B1 (blk_lt h1)).trans h1
  have hbk := (hW.block _ (blk_lt hcs0)).trans hcs0
  have HR0 := Aside0.mk (hr.below hW)
  have HK := Aside0.mk hk
  have HL := Aside0.mk hL
  have HC := Aside0.mk hc
  have hsz := Nat.le_trans hn0 hW.size
  have hd : 1 ≤ n - 1 := by omega
  clear hr hcs0 h1 hk hW hn0 hL hc
  refine callsIn_of_wp Try.func74 rfl trivial ?_ rfl
  simp only [Try.ntmps74, List.size_toArray, List.length_cons, List.length_nil, Nat.reduceAdd, Nat.reduceSub, Array.replicate_succ, Array.replicate_zero, List.push_toArray, List.append_toArray, List.nil_append, List.cons_append]
  gi_wp2
  have hmx : Try.prog.follows .mixedOrders = true := by kernel_rfl
  gi_loopg [3, 4] kvs.length (fun m lv iv wr => ∃ (i : Nat) (ds es : List (List Int × List Int)) (xs : List Pr) (A : Addr) (ca : Nat), iv = .int .i64 i ∧ Aside0 (i = ds.length) ∧ Aside0 (kvs = ds ++ es) ∧ Aside0 (xs.map Pr.kv = ds ∧ ∀ x ∈ xs, POwn n₀ wr x) ∧
    Aside0 (wr.ownsRow n₀ 5 1 lv ((ds.map Prod.fst).getLastD []).length (nums .u8 ((ds.map Prod.fst).getLastD []))) ∧ Aside0 (RdB wr (some A) (rowB i ((ds.map Prod.fst).getLastD []) es) ∧ (rowB i ((ds.map Prod.fst).getLastD []) es).length ≤ ca ∧ A.block = a.block) ∧
    wr.heap[B1]? = some (.cells #[.slice (some A) (rowB i ((ds.map Prod.fst).getLastD []) es).length ca] 23 (0, 0)) ∧ wr.heap[a.block]? = some (.cells cs0 5 (0, 0)) ∧ J xs wr ∧ n₀ ≤ wr.heap.size ∧ m = es.length)
  case atStart => exact ⟨0, [], kvs, [], a, c, rfl, ⟨rfl⟩, ⟨rfl⟩, ⟨rfl, fun x hx => by cases hx⟩, ⟨nil_own _ _⟩, ⟨HR0.out, HC.out, rfl⟩, hB, hbk, h0, hsz, rfl⟩
  case round =>
    obtain ⟨i, ds, es, xs, A, ca, rfl, HI, HE, HX, HO, HR, hB, hbk, hJs, hzs, rfl⟩ := hrel
    have b1 : wr.cell? ⟨B1, 0, none⟩ = some (.slice (some A) (rowB i ((ds.map Prod.fst).getLastD []) es).length ca) := (blk_cell hB 0).trans rfl
    cases es with
    | nil =>
      simp only [rowB, List.length_nil] at b1
      have t1 : decide ((0 : Int) < ((0 : Nat) : Int)) = false := rfl
      gi_wp2
      go_end0
      refine ⟨⟨_, rfl⟩, .inl ⟨xs, ⟨?_, HX.out.2⟩, hJs⟩⟩
      rw [HE.out, List.append_nil]
      exact HX.out.1
    | cons x es =>
      obtain ⟨xk, xv⟩ := x
      generalize hlk : (ds.map Prod.fst).getLastD [] = last at *
      have HLK := Aside0.mk hlk
      clear hlk
      have hok := HK.out
      have hxm : (xk, xv) ∈ kvs := by rw [HE.out]; simp
      have hxk := hok.k _ hxm
      have hxv := hok.v _ hxm
      have hlo := last_ok HE.out hok
      rw [HLK.out] at hlo
      have hdl : ds.length < 4096 := by have := hok.n; rw [HE.out] at this; simp at this; omega
      have hll : 0 < i → lts last xk = true := fun h => by
        have := last_lt (ds := ds) (es := es) (x := (xk, xv)) (by rw [← HE.out]; exact hok.s) (by rw [← HI.out]; exact h)
        rwa [HLK.out] at this
      have hbyt : Byt (rowB i last ((xk, xv) :: es)) := rowB_byt _ _ _ fun y hy => ⟨(hok.k y (by rw [HE.out]; simp only [List.mem_append]; exact .inr hy)).1, (hok.v y (by rw [HE.out]; simp only [List.mem_append]; exact .inr hy)).1⟩
      have hrs : (rowB (i + 1) xk es).length ≤ 1000000 := by
        have h1 := rowB_drop ds ((xk, xv) :: es) 0 []
        rw [HLK.out, Nat.zero_add, ← HI.out, ← HE.out] at h1
        have h2 : (rowB i last ((xk, xv) :: es)).length = (pairB i last xk xv).length + (rowB (i + 1) xk es).length := List.length_append
        have := HL.out
        omega
      obtain ⟨LA, lc, rfl, hrl, hlc, hl0, _⟩ := own_form HO.out
      have hpos : 0 < (rowB i last ((xk, xv) :: es)).length := by
        have := pairB_pos i last xk xv
        have h2 : (rowB i last ((xk, xv) :: es)).length = (pairB i last xk xv).length + (rowB (i + 1) xk es).length := List.length_append
        omega
      have hnx := pnext_c (w := wr) (A := A) (c := ca) (nb := (rowB i last ((xk, xv) :: es)).length) (i := i) (LA := LA) (lc := lc) (last := last) (pk := xk) (pv := xv) (rest := rowB (i + 1) xk es) HR.out.1 rfl HR.out.2.1 hrl hlc hl0 hbyt hlo.1 hxk.1 hll (by rw [HI.out]; exact hdl) hxk.2.2 hxv.2.2 hlo.2 hxk.2.1 hxv.2.1 hrs
      have t1 : decide ((0 : Int) < ((rowB i last ((xk, xv) :: es)).length : Int)) = true := decide_eq_true (by omega)
      have t2 : decide (0 < (rowB i last ((xk, xv) :: es)).length) = true := decide_eq_true hpos
      have HNX := Aside0.mk hnx
      clear hok hxm hxk hxv hlo hll hbyt hrs hrl hlc hl0 hnx
      generalize hLE : (rowB i last ((xk, xv) :: es)).length = LE at *
      have t3 : decide ((i : Int) < 4096) = true := decide_eq_true (by rw [HI.out]; omega)
      have t4 : decide (i < 4096) = true := decide_eq_true (by rw [HI.out]; omega)
      gi_wp2_with (first
        | (refine ⟨trivial, fun _ => by omega, ?_⟩
           refine (callsIn_wide.2 HNX.out).mono ?_
           rintro e w2 ⟨⟨pA, pk, pc, pB, pv, pd⟩, A', c', rfl, hpk, hpv, hown, hrr, hrc, hab, hb2⟩
           simp only at hpk hpv
           subst hpk hpv
           simp only [Pr.val]
           have hb3 := hb2.alloc hb2.size (.cells #[.slice (some pA) pk.length pc, .slice (some pB) pv.length pd] 75)
           have hJ3 := hJ _ _ _ hJs (StepB.of_below (Ba := B1) hb3)
           have hX3 : PCame kvs n₀ (xs ++ [⟨pA, pk, pc, pB, pv, pd⟩]) (w2.alloc (.cells #[.slice (some pA) pk.length pc, .slice (some pB) pv.length pd] 75)) := pcame_snoc HE.out HX.out hzs hb2 hown _
           obtain ⟨fn, tmps, assign, body, hy, hR⟩ := hY xs ⟨pA, pk, pc, pB, pv, pd⟩ _ hJ3 ⟨hX3, by rw [World.size_alloc, Nat.add_sub_cancel]; exact al_new rfl⟩
           simp only [Pr.val] at hy)
        | ((first | refine ⟨fun _ => by omega, hR.mono ?_⟩ | refine hR.mono ?_)
           rintro e W3 ⟨bo, rfl, hgo, hst⟩
           cases bo
           rotate_left
           obtain ⟨hJ4, hk4⟩ := hgo rfl
           rw [World.size_alloc, Nat.add_sub_cancel] at hk4
           have hp4 := (hk4.2 _ _ (al_new rfl)).trans (al_new rfl)
           have hB4 := (hk4.1.2 B1 _ _ (al_old ((hb2.block _ (blk_lt hB)).trans hB) _) (.inr rfl)).trans (al_old ((hb2.block _ (blk_lt hB)).trans hB) _)
           have hbk4 := (hk4.1.2 _ _ _ (al_old ((hb2.block _ (blk_lt hbk)).trans hbk) _) (.inl rfl)).trans (al_old ((hb2.block _ (blk_lt hbk)).trans hbk) _)
           have y0 : W3.cell? ⟨w2.heap.size, 0, none⟩ = some (.slice (some pA) pk.length pc) := (blk_cell hp4 0).trans rfl
           have y1 : W3.cell? ⟨B1, 0, none⟩ = some (.slice (some A) LE ca) := (blk_cell hB4 0).trans rfl
           have y2 := blk_frozen hB4 0
           rotate_left))
      · refine bodyPost_ret (results_none rfl _ _ _) rfl ?_
        exact ⟨⟨_, rfl⟩, .inr ⟨_, hst trivial⟩⟩
      obtain ⟨hJ4, hk4⟩ := hgo trivial
      rw [World.size_alloc, Nat.add_sub_cancel] at hk4
      have hB4 := (hk4.1.2 B1 _ _ (al_old ((hb2.block _ (blk_lt hB)).trans hB) _) (.inr rfl)).trans (al_old ((hb2.block _ (blk_lt hB)).trans hB) _)
      have hbk4 := (hk4.1.2 _ _ _ (al_old ((hb2.block _ (blk_lt hbk)).trans hbk) _) (.inl rfl)).trans (al_old ((hb2.block _ (blk_lt hbk)).trans hbk) _)
      have hX4 := (pcame_snoc HE.out HX.out hzs hb2 hown (.cells #[.slice (some pA) pk.length pc, .slice (some pB) pv.length pd] 75)).kb hk4.1
      have hne : a.block ≠ B1 := (blk_ne hB hbk (by decide)).symm
      have hlast : ((ds ++ [(pk, pv)]).map Prod.fst).getLastD [] = pk := by rw [List.map_append, List.getLastD_eq_getLast?]; simp
      have hJ5 := hJ _ W3 (W3.setCell ⟨B1, 0, none⟩ (.slice (some A') (rowB (i + 1) pk es).length c')) hJ4 ⟨rfl, rfl, rfl, by simp [World.setCell], fun k _ hk => Below.heap_setCell _ _ _ _ (fun e => hk (by rw [e]))⟩
      have hbk5 : (W3.setCell ⟨B1, 0, none⟩ (.slice (some A') (rowB (i + 1) pk es).length c')).heap[a.block]? = some (.cells cs0 5 (0, 0)) := (Below.heap_setCell _ _ _ _ hne).trans hbk4
      have hbA : A'.block = a.block := by rw [hab]; exact HR.out.2.2
      have hO5 := own_set (i := 0) (u := .slice (some A') (rowB (i + 1) pk es).length c') hB4 (hX4.2 ⟨pA, pk, pc, pB, pv, pd⟩ (by simp)).k
      have hiw : wrap64 ((i : Int) + 1) = ((i + 1 : Nat) : Int) := by
        have : i < 4096 := by rw [HI.out]; exact hdl
        unfold wrap64
        omega
      gi_roundg es.length
      all_goals first
      | exact Nat.lt_succ_self _
      | exact ⟨i + 1, ds ++ [(pk, pv)], es, _, A', c', by rw [hiw], ⟨by rw [List.length_append, ← HI.out]; rfl⟩, ⟨by rw [HE.out]; simp⟩, ⟨by rw [List.map_append, HX.out.1]; rfl, fun y hy => ⟨own_set hB4 (hX4.2 y hy).k, own_set hB4 (hX4.2 y hy).v, (hX4.2 y hy).kc, (hX4.2 y hy).vc⟩⟩,
          ⟨by rw [hlast]; exact hO5⟩, ⟨by rw [hlast]; exact ⟨rdb_blk hrr (by rw [hbA, hbk5, hbk]), hrc, hbA⟩⟩, by rw [hlast]; exact blk_put hB4 0 _ rfl, hbk5, hJ5, by have := hk4.1.1; simp [World.size_alloc, World.setCell] at this ⊢; have := hb2.size; omega, rfl⟩
end Go.Proofs.Ythabkdbhjioalaa.Top
namespace Go.Proofs.Ythabkdbhjioalaa.Top
set_option linter.unusedSimpArgs false
set_option linter.unusedVariables false
open Go.RowKit Go.Shelf Go.Proofs.YthabkdbhjioalaaW.PrintWords Go.Proofs.YthabkdbhjioalaaW.PrintLast Go.Proofs.YthabkdbhjioalaaW.PrintMore Go.Proofs.Ythabkdbhjioalaa.Plain Go.Proofs.Ythabkdbhjioalaa.Fns
attribute [local go_sem] Oper.semAt_some
theorem info_pr : (Try.prog.info? 75).map (fun i => (i.zero, i.size, i.bytes)) = some (some (.agg #[.slice none 0 0, .slice none 0 0]), 2, 48) := by kernel_rfl
/-- Two rows of bytes at one place, of one length, are one. -/
theorem rdb_eq {W : World} {a : Addr} {k l : List Int} (hk : RdB W (some a) k) (hl : RdB W (some a) l) (h : k.length = l.length) : k = l := by
  apply List.ext_getElem h
  intro j h1 h2
  have e1 := rd_news hk j (.int .u8 k[j]) (by simp [nums, h1])
  have e2 := rd_news hl j (.int .u8 l[j]) (by simp [nums, h2])
  rw [e1] at e2
  simpa using e2
/-- The row that is being made is another block than the pair that is handed over. -/
theorem own_ne_pair {W : World} {base m : Nat} {v : Value} {xs : List Pr} {x : Pr} (h : W.ownsRow base 75 2 v xs.length (xs.flatMap Pr.cells)) (h0 : xs = [] → v.ownBlock = none)
    (hm : W.heap[m]? = some (.cells #[.slice (some x.A) x.k.length x.c, .slice (some x.B) x.v.length x.d] 75 (0, 0))) (hx : x.rd W) (hxs : ∀ y ∈ xs, y.rd W ∧ y.k ≠ x.k) : v.ownBlock ≠ some m := fun e => by
  rcases h.2 with ⟨rfl, _⟩ | ⟨g, cap, cur, rfl, hb, hg, hle, hcap, hsz, htk⟩
  · cases e
  · simp only [Value.ownBlock, Option.some.injEq] at e
    subst e
    rw [hm] at hg
    simp only [Option.some.injEq, Obj.cells.injEq] at hg
    obtain ⟨rfl, _⟩ := hg
    simp at hsz
    have hc1 : cap = 1 := by omega
    subst hc1
    cases xs with
    | nil => have := h0 rfl; simp [Value.ownBlock] at this
    | cons y ys =>
      have hy0 : ys = [] := by
        simp at hle
        exact hle
      subst hy0
      simp [Pr.cells] at htk
      obtain ⟨⟨ha, hl, _⟩, _⟩ := htk
      obtain ⟨hry, hne⟩ := hxs y (by simp)
      refine hne (rdb_eq hry.k ?_ hl.symm)
      rw [← ha]
      exact hx.k
theorem pcells_new (W : World) (x : Pr) : ∀ j u, x.cells[j]? = some u → (W.alloc (.cells #[.slice (some x.A) x.k.length x.c, .slice (some x.B) x.v.length x.d] 75)).cell? ((⟨W.heap.size, 0, none⟩ : Addr).add j) = some u := fun j u hj => by
  have hb : (W.alloc (.cells #[.slice (some x.A) x.k.length x.c, .slice (some x.B) x.v.length x.d] 75)).heap[W.heap.size]? = some (.cells x.cells.toArray 75 (0, 0)) := al_new rfl
  have := (blk_cell hb j).trans (by simpa using hj)
  have ea : ((⟨W.heap.size, 0, none⟩ : Addr).add j) = ⟨W.heap.size, j, none⟩ := by
    by_cases h : j = 0
    · subst h
      rfl
    · simp [Addr.add, h]
  rw [ea]
  exact this
theorem pcells_one (x : Pr) : ∀ u ∈ x.cells, u.oneCell' = true := fun u hu => by
  simp only [Pr.cells, List.mem_cons, List.not_mem_nil, or_false] at hu
  rcases hu with rfl | rfl <;> rfl
theorem bread_kbm {N m b n : Nat} {W w3 : World} {o : Obj} {u u' v : Value} {xs : List Value} (hown : W.ownsRow N 75 2 v n xs) (hg : (W.alloc o).grownBy w3 v.ownBlock) (hb : W.heap[b]? = some (.cells #[u] 68 (0, 0))) (hm : v.ownBlock ≠ some m) (hbm : b ≠ m) : Kbm m W (w3.setCell ⟨b, 0, none⟩ u') := by
  refine ⟨⟨?_, fun k cs e hk he => ?_⟩, fun cs e hk => ?_⟩
  · have := hg.size
    simp [World.size_alloc] at this ⊢
    omega
  · refine (Below.heap_setCell _ _ _ _ (fun e' => ?_)).trans ((hg.block k (by simp [World.size_alloc]; have := blk_lt hk; omega) (fun hb' => ?_)).trans ((al_old hk o).trans hk.symm))
    · subst e'
      rw [hb] at hk
      simp only [Option.some.injEq, Obj.cells.injEq] at hk
      rcases he with rfl | rfl
      · exact absurd hk.2.1 (by decide)
      · exact absurd hk.2.1 (by decide)
    · obtain ⟨cs', hc⟩ := own_typed hown k hb'.symm
      rw [hc] at hk
      simp only [Option.some.injEq, Obj.cells.injEq] at hk
      rcases he with rfl | rfl
      · exact absurd hk.2.1 (by decide)
      · exact absurd hk.2.1 (by decide)
  · exact (Below.heap_setCell _ _ _ _ (Ne.symm hbm)).trans ((hg.block m (by simp [World.size_alloc]; have := blk_lt hk; omega) (fun e => hm e.symm)).trans ((al_old hk o).trans hk.symm))
/-- Two results in variables, each of one cell. -/
theorem results_two {P : Program} {fn : Func} {p u : Tmp} {ty tu : TypeId} (h : fn.results = #[.cell p ty, .cell u tu]) (tmps : Array Value) (w : World) (a b : Addr) (va vb : Value)
    (hp : tmps[p]?.getD undef = .pointer (some a)) (hu : tmps[u]?.getD undef = .pointer (some b)) (ha : w.cell? a = some va) (hb : w.cell? b = some vb)
    (hat : (loadVar ty a).run P w = (load a).run P w) (hbt : (loadVar tu b).run P w = (load b).run P w) : (results fn tmps).run P w = .ok (.tuple #[va, vb]) w := by
  have e1 : (load a).run P w = .ok va w := by rw [run_load, ha]
  have e2 : (load b).run P w = .ok vb w := by rw [run_load, hb]
  simp [results, h, hp, hu, asAddr, Sem.run_bind, Result.andThen, hat, hbt, e1, e2]
theorem lv_pairs (w : World) (a : Addr) : (loadVar 68 a).run Try.prog w = (load a).run Try.prog w := by
  simp [loadVar, isAgg, run_underlying Try.underlying68, Result.andThen]
theorem lv_errno (w : World) (a : Addr) : (loadVar 28 a).run Try.prog w = (load a).run Try.prog w := by
  simp [loadVar, isAgg, run_underlying Try.underlying28, Result.andThen]
/-- What the loop holds. -/
structure BRdI (w : World) (pre : List Pr) (W : World) : Prop where
  box : ∃ v, W.heap[w.heap.size + 2]? = some (.cells #[v] 68 (0, 0)) ∧ W.ownsRow (w.heap.size + 4) 75 2 v pre.length (pre.flatMap Pr.cells) ∧ (pre = [] → v.ownBlock = none)
  r0 : W.heap[w.heap.size]? = some (.cells #[.slice none 0 0] 68 (0, 0))
  r1 : W.heap[w.heap.size + 1]? = some (.cells #[.int .i64 0] 28 (0, 0))
  below : Below w.heap.size w W
  sz : w.heap.size + 4 ≤ W.heap.size
theorem BRdI.grown {w A B : World} {pre : List Pr} (h : BRdI w pre A) (hb : StepB (w.heap.size + 3) A B) : BRdI w pre B := by
  obtain ⟨⟨v, h1, h2, h0⟩, h3, h4, h5, h6⟩ := h
  exact ⟨⟨v, (hb.far (blk_lt h1) (by omega)).trans h1, own_move h2 fun k hk => (by
    obtain ⟨cs, hc⟩ := own_typed h2 k hk
    have := (h2.lt k hk).1
    exact hb.far (blk_lt hc) (by omega)), h0⟩, (hb.far (blk_lt h3) (by omega)).trans h3, (hb.far (blk_lt h4) (by omega)).trans h4, h5.grown hb h5.size (fun k e => by cases e; omega), Nat.le_trans h6 hb.size⟩
theorem BRdI.put {w W : World} {pre : List Pr} {l : Nat} {o o' : Obj} (h : BRdI w pre W) (hw : w.heap.size ≤ l) (hl : W.heap[l]? = some o) (ho : o.isCells = false) : BRdI w pre (W.putObj l o') := by
  obtain ⟨⟨v, h1, h2, h0⟩, h3, h4, h5, h6⟩ := h
  exact ⟨⟨v, (put_far hl ho h1).trans h1, own_put hl ho h2, h0⟩, (put_far hl ho h3).trans h3, (put_far hl ho h4).trans h4, h5.grown (⟨rfl, rfl, rfl, by simp, fun k _ hk => World.putObj_heap_other (fun e => hk (by rw [e]))⟩ : W.grownBy (W.putObj l o') (some l)) h5.size (fun k e => by cases e; exact hw), by rw [put_size]; exact h6⟩
theorem PCame.put {kvs : List (List Int × List Int)} {n₀ : Nat} {xs : List Pr} {W : World} {l : Nat} {o o' : Obj} (h : PCame kvs n₀ xs W) (hl : W.heap[l]? = some o) (ho : o.isCells = false) : PCame kvs n₀ xs (W.putObj l o') := h.kb (Kb.put hl ho)
def BRdR (w : World) (A : Option Addr) (m c : Nat) (kvs : List (List Int × List Int)) (p : Nat) (pre : List Pr) (x : Pr) (a : Act) (W : World) : Prop :=
  ∃ e, a = { tmps := #[.slice A m c, undef, .pointer (some ⟨w.heap.size, 0, none⟩), .pointer (some ⟨w.heap.size + 1, 0, none⟩), .pointer (some ⟨w.heap.size + 1 + 1, 0, none⟩), .pointer (some ⟨e, 0, none⟩), .bool true, .slice A m c, .func (.func 74) #[] #[.pointer (some ⟨w.heap.size + 1 + 1 + 1, 0, none⟩)], x.val, .bool true, undef, undef, undef, undef, undef, undef, undef], defers := [] } ∧
  BRdI w pre W ∧ PCame kvs w.heap.size (pre ++ [x]) W ∧ W.heap[e]? = some (.cells #[.slice (some x.A) x.k.length x.c, .slice (some x.B) x.v.length x.d] 75 (0, 0)) ∧ W.heap[p]? = some (.cells #[.slice (some x.A) x.k.length x.c, .slice (some x.B) x.v.length x.d] 75 (0, 0))
set_option maxRecDepth 100000 in
set_option maxHeartbeats 4000000 in
theorem blkread_g {w : World} {A0 : Option Addr} {m c : Nat} {kvs : List (List Int × List Int)} (hk : KvOk kvs)
    (hseq : ∀ W0, Below w.heap.size w W0 → W0.heap[w.heap.size + 3]? = some (.cells #[.slice A0 m c] 23 (0, 0)) → SeqB Fence.wide 5 Try.prog 74 #[.pointer (some ⟨w.heap.size + 3, 0, none⟩)] (fun x : Pr => #[x.val, .bool true]) Kbm (StepB (w.heap.size + 3))
      (fun pre x W => PCame kvs w.heap.size (pre ++ [x]) W ∧ W.heap[W.heap.size - 1]? = some (.cells #[.slice (some x.A) x.k.length x.c, .slice (some x.B) x.v.length x.d] 75 (0, 0))) (fun xs W => xs.map Pr.kv = kvs ∧ ∀ x ∈ xs, POwn w.heap.size W x) W0) :
    Calls Try.prog 38 #[.slice A0 m c] w fun e w' => ∃ (v : Value) (xs : List Pr), e = .returned (.tuple #[v, .int .i64 0]) ∧ w'.ownsRow w.heap.size 75 2 v xs.length (xs.flatMap Pr.cells) ∧ xs.map Pr.kv = kvs ∧ (∀ x ∈ xs, POwn w.heap.size w' x) ∧ Below w.heap.size w w' := by
  refine (callsIn_wide (n := 6)).1 ?_
  have HK := Aside0.mk hk
  clear hk
  refine callsIn_of_wp_marks Try.func38 rfl trivial ?_ rfl
  simp only [Try.ntmps38, List.size_toArray, List.length_cons, List.length_nil, Nat.reduceAdd, Nat.reduceSub, Array.replicate_succ, Array.replicate_zero, List.push_toArray, List.append_toArray, List.nil_append, List.cons_append]
  gi_wp2_with (refine ⟨trivial, ?_⟩; refine (callsIn_wide.2 (pairs_c _ _ _ _)).mono ?_; rintro e w2 ⟨rfl, rfl⟩)
  obtain ⟨W0, hW0⟩ : ∃ W0, (((w.alloc (.cells #[.slice none 0 0] 68)).alloc (.cells #[.int .i64 0] 28)).alloc (.cells #[.slice none 0 0] 68)).alloc (.cells #[.slice A0 m c] 23) = W0 := ⟨_, rfl⟩
  have hB0 : Below w.heap.size w W0 := by
    rw [← hW0]
    exact ((((Below.refl _ w).alloc (Nat.le_refl _) _).alloc (by simp) _).alloc (by simp; omega) _).alloc (by simp; omega) _
  have hI0 : BRdI w [] W0 := ⟨⟨.slice none 0 0, by rw [← hW0]; exact al_old (al_new (by simp)) _, World.ownsRow_nil _ _ _ _, fun _ => rfl⟩, by rw [← hW0]; exact al_old (al_old (al_old (al_new rfl) _) _) _, by rw [← hW0]; exact al_old (al_old (al_new (by simp)) _) _, hB0, by rw [← hW0]; simp⟩
  have hb1 : W0.heap[w.heap.size + 3]? = some (.cells #[.slice A0 m c] 23 (0, 0)) := by rw [← hW0]; exact al_new (by simp)
  have hs0 : W0.heap.size = w.heap.size + 4 := by rw [← hW0]; simp
  rw [hW0]
  clear hW0
  have hseq := hseq W0 hB0 hb1
  refine range_b (F := Fence.wide) (n := 6) rfl (by omega) (gf := 74) rfl trivial (enters_of Try.func74 (by kernel_rfl) rfl) hseq
    (fun l o hst hl1 hl _ => (hst.far (Array.getElem?_eq_some_iff.1 hl).1 (by omega)).trans hl) (fun h k => h.trans k) (fun m W l o o' _ hl ho _ => Kbm.put hl ho)
    (fun xs W l o o' hwl hl ho hS => ⟨hS.1, fun x hx => (Kb.put hl ho).pr (hS.2 x hx)⟩) (Below.refl _ _) (fun _ => rfl)
    (BRdI w) (fun pre A B h hst => h.grown hst) (fun pre W l o o' hwl hl ho h => h.put (by omega) hl ho) (fun W o h => h.grown (StepB.of_below ((Below.refl _ W).alloc (Nat.le_refl _) _))) hI0
    (fun _ _ _ => False) (fun _ _ _ _ h _ => h) (fun _ _ _ _ _ _ _ _ _ h => h)
    (BRdR w A0 m c kvs) (fun m pre x a' W l o o' hwl hl ho h => by
      obtain ⟨e, h1, h2, h3, h4, h5⟩ := h
      exact ⟨e, h1, h2.put (by omega) hl ho, h3.put hl ho, (put_far hl ho h4).trans h4, (put_far hl ho h5).trans h5⟩) ?assign ?body ?done (fun _ _ _ _ _ h _ => h.elim)
  case assign =>
    intro l pre x W K hI hX hK
    unfold Pr.val
    gi_wp2
    have hb := (Below.refl W.heap.size W).alloc (Nat.le_refl _) (.cells #[.slice (some x.A) x.k.length x.c, .slice (some x.B) x.v.length x.d] 75)
    exact hK _ _ ⟨W.heap.size, rfl, hI.grown (StepB.of_below hb), hX.1.kb (Kb.of_below hb), al_new rfl, al_old hX.2 _⟩ hb (Kbm.of_below hb)
  case body =>
    rintro l mm pre x a' W ⟨e, rfl, ⟨⟨v, hv, hown, hv0⟩, hr0, hr1, hB, hsz⟩, hX, he, hp⟩
    obtain ⟨i0, hi, hzz⟩ := Option.map_eq_some_iff.1 info_pr
    simp only [Prod.mk.injEq] at hzz
    obtain ⟨hz0, hz1, hz2⟩ := hzz
    have c0 : W.cell? ⟨w.heap.size + 1 + 1, 0, none⟩ = some v := (blk_cell hv 0).trans rfl
    have e0 : W.cell? ⟨e, 0, none⟩ = some (.slice (some x.A) x.k.length x.c) := (blk_cell he 0).trans rfl
    have e1 : W.cell? ⟨e, 1, none⟩ = some (.slice (some x.B) x.v.length x.d) := (blk_cell he 1).trans rfl
    have hl63 : pre.length ≤ 4096 := by have := hX.1.length_le; have h2 := HK.out.n; simp at this; omega
    have hBs := hB.size
    have hnm : v.ownBlock ≠ some mm := own_ne_pair hown hv0 hp (hX.2 x (by simp)).rd fun y hy => ⟨(hX.2 y (by simp [hy])).rd, fun hyx => by
      obtain ⟨r, hr⟩ := hX.1
      have hs := HK.out.s
      rw [← hr, List.map_append, List.map_append, List.map_append] at hs
      have h1 := (List.pairwise_append.1 (List.pairwise_append.1 hs).1).2.2 y.k (by simp only [List.mem_map]; exact ⟨y.kv, ⟨y, hy, rfl⟩, rfl⟩) x.k (by simp [Pr.kv])
      rw [hyx] at h1
      rw [lts_irrefl] at h1
      cases h1⟩
    have hbm : w.heap.size + 2 ≠ mm := blk_ne hv hp (by decide)
    gi_wp2_with (first
      | (gi_at_builtin; refine wpListIn_append_own_at _ rfl _ _ 68 rfl (w.heap.size + 4) 75 i0 _ 2 48 Try.underlying68 hi hz0 hz1 hz2 rfl (by decide) _ _ _ rfl (hown.alloc _) ⟨W.heap.size, 0, none⟩ 1 1 x.cells rfl rfl (pcells_new W x) (pcells_one x) (by simp only [maxLen]; omega) (by omega) (by simp [World.size_alloc]; omega) ?_; intro v' w3 hown' hg3 hnil3 hat3
         obtain ⟨g', cap', cur', rfl, hbase', hgb', hr1', hr2', hr3', hr4'⟩ := own_some hown' (by omega)
         have hv3 := row_box hv hown hg3
         have h03 := row_box hr0 hown hg3
         have h13 := row_box hr1 hown hg3
         obtain ⟨hc3, hf3⟩ := cell_of_box hv3
         go_frame)
      | fail)
    have hko : KeepsOthers W (w3.setCell ⟨w.heap.size + 1 + 1, 0, none⟩ (.slice (some ⟨g', 0, none⟩) (pre.length + 1) cap')) := ((KeepsOthers.alloc _ _).trans (KeepsOthers.of_grownBy hg3 (fun j o hj ho => by
          obtain ⟨cs, hc⟩ := own_typed (hown.alloc _) j hj
          rw [hc] at ho
          cases ho
          rfl))).trans (KeepsOthers.setCell _ _ _)
    refine ⟨hko, bread_kbm hown hg3 hv hnm hbm, ⟨⟨_, blk_put hv3 0 _ rfl, ?_, fun h => by simp at h⟩, ?_, ?_, ?_, ?_⟩⟩
    · have h := own_set (i := 0) (u := .slice (some ⟨g', 0, none⟩) (pre.length + 1) cap') hv3 hown'
      rw [List.length_append, List.flatMap_append]
      simpa using h
    · exact (Below.heap_setCell _ _ _ _ (by simp; omega)).trans h03
    · exact (Below.heap_setCell _ _ _ _ (by simp)).trans h13
    · exact ((hB.alloc hB.size _).grown hg3 (by simp; omega) (fun k hk => by have := (hown.lt k hk).1; omega)).setCell (p := ⟨w.heap.size + 1 + 1, 0, none⟩) (by simp; omega) _
    · have := hg3.size
      simp [World.size_alloc] at this ⊢
      omega
  case done =>
    rintro D xs W hD hS ⟨⟨v, hv, hown, hv0⟩, hr0, hr1, hB, hsz⟩ hK
    have c0 : W.cell? ⟨w.heap.size + 1 + 1, 0, none⟩ = some v := (blk_cell hv 0).trans rfl
    obtain ⟨c1, f1⟩ := cell_of_box hr0
    obtain ⟨c2, f2⟩ := cell_of_box hr1
    obtain ⟨A, cc, rfl, _⟩ := row_slice hown
    have hmx : Try.prog.follows .mixedOrders = true := by kernel_rfl
    gi_wp2
    have h0 := blk_put hr0 0 (.slice A xs.length cc) rfl
    have h1 := blk_put ((Below.heap_setCell W ⟨w.heap.size, 0, none⟩ (.slice A xs.length cc) (w.heap.size + 1) (by simp)).trans hr1) 0 (.int .i64 0) rfl
    have hK1 : ((W.setCell ⟨w.heap.size, 0, none⟩ (.slice A xs.length cc)).setCell ⟨w.heap.size + 1, 0, none⟩ (.int .i64 0)).heap[D]? = some (.deferred (some [])) := (Below.heap_setCell _ _ _ _ (by rintro rfl; rw [hr1] at hK; cases hK)).trans ((Below.heap_setCell _ _ _ _ (by rintro rfl; rw [hr0] at hK; cases hK)).trans hK)
    have hown1 := own_set (i := 0) (u := .int .i64 0) ((Below.heap_setCell W ⟨w.heap.size, 0, none⟩ (.slice A xs.length cc) (w.heap.size + 1) (by simp)).trans hr1) (own_set (i := 0) (u := .slice A xs.length cc) hr0 hown)
    have hb1 := (hB.setCell (p := ⟨w.heap.size, 0, none⟩) (Nat.le_refl _) (.slice A xs.length cc)).setCell (p := ⟨w.heap.size + 1, 0, none⟩) (by simp) (.int .i64 0)
    have hS1 : ∀ x ∈ xs, POwn w.heap.size ((W.setCell ⟨w.heap.size, 0, none⟩ (.slice A xs.length cc)).setCell ⟨w.heap.size + 1, 0, none⟩ (.int .i64 0)) x := fun x hx => ⟨own_set ((Below.heap_setCell W ⟨w.heap.size, 0, none⟩ (.slice A xs.length cc) (w.heap.size + 1) (by simp)).trans hr1) (own_set hr0 (hS.2 x hx).k), own_set ((Below.heap_setCell W ⟨w.heap.size, 0, none⟩ (.slice A xs.length cc) (w.heap.size + 1) (by simp)).trans hr1) (own_set hr0 (hS.2 x hx).v), (hS.2 x hx).kc, (hS.2 x hx).vc⟩
    have hc1 : ((W.setCell ⟨w.heap.size, 0, none⟩ (.slice A xs.length cc)).setCell ⟨w.heap.size + 1, 0, none⟩ (.int .i64 0)).cell? ⟨w.heap.size + 1, 0, none⟩ = some (.int .i64 0) := (cell_of_box h1).1
    have hc0 : ((W.setCell ⟨w.heap.size, 0, none⟩ (.slice A xs.length cc)).setCell ⟨w.heap.size + 1, 0, none⟩ (.int .i64 0)).cell? ⟨w.heap.size, 0, none⟩ = some (.slice A xs.length cc) := (cell_of_box ((Below.heap_setCell _ _ _ _ (by simp)).trans h0)).1
    clear c0 c1 c2 f1 f2 h0 h1
    generalize (W.setCell ⟨w.heap.size, 0, none⟩ (.slice A xs.length cc)).setCell ⟨w.heap.size + 1, 0, none⟩ (.int .i64 0) = W9 at *
    refine ⟨by simp, .inl ⟨_, _, rfl, run_takeDeferred hK1, ?_⟩⟩
    have hgr : W9.grownBy (W9.putObj D (.deferred none)) (some D) := ⟨rfl, rfl, rfl, by simp, fun k _ hk => World.putObj_heap_other (fun e => hk (by rw [e]))⟩
    refine ⟨_, results_two rfl _ _ ⟨w.heap.size, 0, none⟩ ⟨w.heap.size + 1, 0, none⟩ _ _ rfl rfl (?_ : _ = some (.slice A xs.length cc)) (?_ : _ = some (.int .i64 0)) (lv_pairs _ _) (lv_errno _ _), .slice A xs.length cc, xs, rfl, own_low (own_put hK1 rfl hown1) (by omega), hS.1, fun x hx => (Kb.put hK1 rfl).pr (hS1 x hx), hb1.grown hgr hb1.size (fun k e => by cases e; omega)⟩
    · have := (World.cell?_of_block (w := W9) (w' := W9.putObj D (.deferred none)) (a := ⟨w.heap.size, 0, none⟩) (World.putObj_heap_other (by simp only; omega))).trans hc0
      exact this
    · have := (World.cell?_of_block (w := W9) (w' := W9.putObj D (.deferred none)) (a := ⟨w.heap.size + 1, 0, none⟩) (World.putObj_heap_other (by simp only; omega))).trans hc1
      exact this
theorem blkread_c {w : World} {a : Addr} {c : Nat} {kvs : List (List Int × List Int)} (hr : RdB w (some a) (rowB 0 [] kvs)) (hty : ∃ cs, w.heap[a.block]? = some (.cells cs 5 (0, 0))) (hc : (rowB 0 [] kvs).length ≤ c) (hk : KvOk kvs) (hL : (rowB 0 [] kvs).length ≤ 1000000) :
    Calls Try.prog 38 #[.slice (some a) (rowB 0 [] kvs).length c] w fun e w' => ∃ (v : Value) (xs : List Pr), e = .returned (.tuple #[v, .int .i64 0]) ∧ w'.ownsRow w.heap.size 75 2 v xs.length (xs.flatMap Pr.cells) ∧ xs.map Pr.kv = kvs ∧ (∀ x ∈ xs, POwn w.heap.size w' x) ∧ Below w.heap.size w w' :=
  blkread_g hk fun W0 hB0 hb1 => by
    obtain ⟨cs0, hcs0⟩ := hty
    exact pairs1 (n := 5) (n₀ := w.heap.size) (by omega) (hr.below hB0) ⟨cs0, (hB0.block _ (blk_lt hcs0)).trans hcs0⟩ hc hk hL hb1 hB0.size
set_option maxRecDepth 100000 in
set_option maxHeartbeats 4000000 in
theorem pairs0 {n : Nat} (hn : 3 ≤ n) {w : World} {B1 n₀ c : Nat} {A : Option Addr} (h1 : w.heap[B1]? = some (.cells #[.slice A 0 c] 23 (0, 0))) :
    SeqB Fence.wide n Try.prog 74 #[.pointer (some ⟨B1, 0, none⟩)] (fun x : Pr => #[x.val, .bool true]) Kbm (StepB B1) (fun pre x W => PCame [] n₀ (pre ++ [x]) W ∧ W.heap[W.heap.size - 1]? = some (.cells #[.slice (some x.A) x.k.length x.c, .slice (some x.B) x.v.length x.d] 75 (0, 0)))
      (fun xs W => xs.map Pr.kv = [] ∧ ∀ x ∈ xs, POwn n₀ W x) w := fun l J Jx W hW hJ hJx hY h0 => by
  have hB := (hW.block B1 (blk_lt h1)).trans h1
  have b1 : W.cell? ⟨B1, 0, none⟩ = some (.slice A 0 c) := (blk_cell hB 0).trans rfl
  have hd : 1 ≤ n - 1 := by omega
  clear h1 hW hY hJ hJx
  refine callsIn_of_wp Try.func74 rfl trivial ?_ rfl
  simp only [Try.ntmps74, List.size_toArray, List.length_cons, List.length_nil, Nat.reduceAdd, Nat.reduceSub, Array.replicate_succ, Array.replicate_zero, List.push_toArray, List.append_toArray, List.nil_append, List.cons_append]
  gi_wp2
  gi_loopg [4] 0 (fun m iv wr => wr = W ∧ m = 0)
  case atStart => exact ⟨rfl, rfl⟩
  case round =>
    obtain ⟨rfl, rfl⟩ := hrel
    gi_wp2
    go_end0
    exact ⟨⟨_, rfl⟩, .inl ⟨[], ⟨rfl, fun x hx => by cases hx⟩, h0⟩⟩
/-- Of nothing. -/
theorem blkread_0 {w : World} {A : Option Addr} {c : Nat} :
    Calls Try.prog 38 #[.slice A 0 c] w fun e w' => ∃ (v : Value) (xs : List Pr), e = .returned (.tuple #[v, .int .i64 0]) ∧ w'.ownsRow w.heap.size 75 2 v xs.length (xs.flatMap Pr.cells) ∧ xs.map Pr.kv = [] ∧ (∀ x ∈ xs, POwn w.heap.size w' x) ∧ Below w.heap.size w w' :=
  blkread_g ⟨fun x hx => (by cases hx), fun x hx => (by cases hx), List.Pairwise.nil, by simp⟩ fun W0 hB0 hb1 => pairs0 (n := 5) (by omega) hb1
end Go.Proofs.Ythabkdbhjioalaa.Top
namespace Go.Proofs.Ythabkdbhjioalaa.Top
set_option linter.unusedSimpArgs false
set_option linter.unusedVariables false
open Go.RowKit Go.Proofs.YthabkdbhjioalaaW.PrintWords Go.Proofs.YthabkdbhjioalaaW.PrintLast Go.Proofs.YthabkdbhjioalaaW.PrintMore Go.Proofs.Ythabkdbhjioalaa.Plain Go.Proofs.Ythabkdbhjioalaa.Fns
/-- An entry that can be read. -/
structure Ent.rd (W : World) (x : Ent) : Prop where
  k : RdB W x.A x.k
  kc : x.k.length ≤ x.c
  some_ : ∃ a, x.A = some a
theorem Ent.rd.below {W W1 : World} {x : Ent} (h : x.rd W) (hb : Below W.heap.size W W1) : x.rd W1 := ⟨h.k.below hb, h.kc, h.some_⟩
/-- Entries that a table may hold. -/
structure EOk (kas : List (List Int × Ag)) : Prop where
  k : ∀ x ∈ kas, Byt x.1 ∧ 1 ≤ x.1.length ∧ x.1.length ≤ 256
  a : ∀ x ∈ kas, Gd x.2
  s : (kas.map Prod.fst).Pairwise (fun a b => lts a b = true)
  n : kas.length ≤ 4096
def Ent.ka (x : Ent) : List Int × Ag := (x.k, x.a)
/-- A row of entries that can be read, from cell o of block b on. -/
structure ERow (W : World) (b o : Nat) (es : List Ent) : Prop where
  at_ : ∀ j (h : j < es.length), ∀ m u, es[j].cells[m]? = some u → W.cell? ⟨b, o + j * 7 + m, none⟩ = some u
  rd : ∀ x ∈ es, x.rd W
theorem ERow.below {W W1 : World} {b o : Nat} {es : List Ent} (h : ERow W b o es) (hb : Below W.heap.size W W1) : ERow W1 b o es :=
  ⟨fun j hj m u hu => cell_below hb (h.at_ j hj m u hu), fun x hx => (h.rd x hx).below hb⟩
theorem ERow.cells {W : World} {b o : Nat} {es : List Ent} (h : ERow W b o es) {j : Nat} (hj : j < es.length) :
    W.cell? ⟨b, o + j * 7, none⟩ = some (.slice es[j].A es[j].k.length es[j].c) ∧ W.cell? ⟨b, o + j * 7 + 1, none⟩ = some (.int .u64 es[j].a.c) ∧ W.cell? ⟨b, o + j * 7 + 2, none⟩ = some (.bool es[j].a.o) ∧
      W.cell? ⟨b, o + j * 7 + 3, none⟩ = some (.int .i64 es[j].a.hi) ∧ W.cell? ⟨b, o + j * 7 + 4, none⟩ = some (.int .u64 es[j].a.lo) ∧ W.cell? ⟨b, o + j * 7 + 5, none⟩ = some (.int .i64 es[j].a.mn) ∧ W.cell? ⟨b, o + j * 7 + 6, none⟩ = some (.int .i64 es[j].a.mx) :=
  ⟨h.at_ j hj 0 _ rfl, h.at_ j hj 1 _ rfl, h.at_ j hj 2 _ rfl, h.at_ j hj 3 _ rfl, h.at_ j hj 4 _ rfl, h.at_ j hj 5 _ rfl, h.at_ j hj 6 _ rfl⟩
set_option maxRecDepth 100000 in
set_option maxHeartbeats 2000000 in
theorem tright_c {w : World} {R : Option Addr} {c b : Nat} {es : List Ent} (hR : es ≠ [] → R = some ⟨b, 0, none⟩) (h : ERow w b 0 es) (hok : EOk (es.map Ent.ka)) :
    Calls Try.prog 26 #[.slice R es.length c] w fun e w' => e = .returned (.int .i64 0) ∧ Below w.heap.size w w' := by
  have hn : es.length ≤ 4096 := by have := hok.n; simpa using this
  have H := Aside0.mk h
  have HOK := Aside0.mk hok
  have t1 : decide ((4096 : Int) < (es.length : Int)) = false := decide_eq_false (by omega)
  clear h hok
  go_enter Try.func26, Try.ntmps26
  go_wp2_with fail
  clear t1
  go_loopw [10] (fun i wr => ∃ j : Nat, j ≤ es.length ∧ i = .int .i64 j ∧ Below w.heap.size w wr) (fun i _ => es.length - (intOf i).toNat)
  case atStart => exact ⟨0, by omega, rfl, Below.refl _ _⟩
  case round =>
    obtain ⟨j, hj, rfl, hB⟩ := hrel
    by_cases hlt : j < es.length
    · have t1 : decide (j < es.length) = true := decide_eq_true hlt
      obtain rfl : R = some ⟨b, 0, none⟩ := hR (by intro e; rw [e] at hlt; simp at hlt)
      have hE := H.out.below hB
      obtain ⟨x0, x1, x2, x3, x4, x5, x6⟩ := hE.cells hlt
      simp only [Nat.zero_add] at x0 x1 x2 x3 x4 x5 x6
      have hrd := hE.rd _ (List.getElem_mem hlt)
      have hkb := HOK.out.k _ (List.mem_map.2 ⟨_, List.getElem_mem hlt, rfl⟩)
      have hga := HOK.out.a _ (List.mem_map.2 ⟨_, List.getElem_mem hlt, rfl⟩)
      simp only [Ent.ka] at hkb hga
      have hprev : 0 < j → ∃ q : Ent, q.rd wr ∧ Byt q.k ∧ lts q.k es[j].k = true ∧ wr.cell? ⟨b, (j - 1) * 7, none⟩ = some (.slice q.A q.k.length q.c) := fun h0 => by
        obtain ⟨i, rfl⟩ : ∃ i, j = i + 1 := ⟨j - 1, by omega⟩
        have hi : i < es.length := by omega
        refine ⟨es[i], hE.rd _ (List.getElem_mem hi), (HOK.out.k _ (List.mem_map.2 ⟨_, List.getElem_mem hi, rfl⟩)).1, ?_, ?_⟩
        · have := (List.pairwise_iff_getElem.1 HOK.out.s) i (i + 1) (by simpa using hi) (by simpa using hlt) (by omega)
          simpa [Ent.ka] using this
        · have := (hE.cells hi).1
          simpa using this
      generalize es[j] = x at *
      obtain ⟨A, xc, k, ⟨ac, ao, ah, al, an, ax⟩⟩ := x
      simp only at x0 x1 x2 x3 x4 x5 x6 hkb hga hprev
      have hrk := hrd.k
      have hkc := hrd.kc
      simp only at hrk hkc
      have HRK := Aside0.mk hrk
      have HPV := Aside0.mk hprev
      have HGA := Aside0.mk hga
      have HKB := Aside0.mk hkb.1
      have t2 : decide ((k.length : Int) < 1) = false := decide_eq_false (by omega)
      have t3 : decide ((256 : Int) < (k.length : Int)) = false := decide_eq_false (by omega)
      have t4 : (ac == 0) = false := beq_eq_false_iff_ne.2 hga.c0
      have hbx := al_new (W := wr) (o := .cells #[.slice A k.length xc, .int .u64 ac, .bool ao, .int .i64 ah, .int .u64 al, .int .i64 an, .int .i64 ax] 36) rfl
      have hb3 := (Below.refl wr.heap.size wr).alloc (Nat.le_refl _) (.cells #[.slice A k.length xc, .int .u64 ac, .bool ao, .int .i64 ah, .int .u64 al, .int .i64 an, .int .i64 ax] 36)
      have hrt := right_gd (w := wr.alloc (.cells #[.slice A k.length xc, .int .u64 ac, .bool ao, .int .i64 ah, .int .u64 al, .int .i64 an, .int .i64 ax] 36)) hga
      unfold Ag.v at hrt
      clear hrk hprev hga hE hrd
      go_upto_region 10 with (first | (go_at_call 21; refine hrt.mono ?_; rintro e w4 ⟨rfl, hb4⟩) | fail)
      have hB4 : Below wr.heap.size wr w4 := hb3.trans (hb4.mono hb3.size)
      have hN4 := (hb4.block _ (blk_lt hbx)).trans hbx
      have z0 : w4.cell? ⟨wr.heap.size, 0, none⟩ = some (.slice A k.length xc) := (blk_cell hN4 0).trans rfl
      clear t2 t3 t4 x0 x1 x2 x3 x4 x5 x6 hbx hb3 hb4 hrt hN4
      go_cut [37] (fun s37 W => s37 = .bool false ∧ Below wr.heap.size wr W)
      case first =>
        by_cases h0 : j = 0
        · have t4 : decide ((0 : Int) < (j : Int)) = false := decide_eq_false (by omega)
          have t6 : decide (0 < j) = false := decide_eq_false (by omega)
          clear h0
          refine wp_region_noPanic ?_
          refine wp_region_held_drew (S := fun _ => True) (by kernel_rfl) trivial (fun hHeld => ?_)
          refine tk (i := 0) (N := 38) (v := .int .i64 (j : Nat)) rfl rfl (by kernel_rfl) (by kernel_rfl) (by kernel_rfl) (fun _ _ _ h => h) (Or.inl ⟨by rfl, fun w' hS => by go_simp⟩) hHeld ?_
          simp only [Act.put, List.setIfInBounds_toArray, List.set_cons_zero, List.set_cons_succ]
          refine tk (i := 1) (N := 39) (v := .bool false) rfl rfl (by kernel_rfl) (by kernel_rfl) (by kernel_rfl) (fun _ _ _ h => h) (Or.inl ⟨by rfl, fun w' hS => by go_simp⟩) hHeld ?_
          simp only [Act.put, List.setIfInBounds_toArray, List.set_cons_zero, List.set_cons_succ]
          refine tk (i := 2) (N := 40) (v := .bool false) rfl rfl (by kernel_rfl) (by kernel_rfl) (by kernel_rfl) (fun _ _ _ h => h) (Or.inl ⟨by rfl, fun w' hS => by go_simp⟩) hHeld ?_
          simp only [Act.put, List.setIfInBounds_toArray, List.set_cons_zero, List.set_cons_succ]
          refine tk (i := 3) (N := 41) (v := undef) rfl rfl (by kernel_rfl) (by kernel_rfl) (by kernel_rfl) (fun _ _ _ h => h) (Or.inr ⟨by rfl, rfl⟩) hHeld ?_
          simp only [Act.put, List.setIfInBounds_toArray, List.set_cons_zero, List.set_cons_succ]
          refine tk (i := 4) (N := 42) (v := undef) rfl rfl (by kernel_rfl) (by kernel_rfl) (by kernel_rfl) (fun _ _ _ h => h) (Or.inr ⟨by rfl, rfl⟩) hHeld ?_
          simp only [Act.put, List.setIfInBounds_toArray, List.set_cons_zero, List.set_cons_succ]
          refine tk (i := 5) (N := 43) (v := undef) rfl rfl (by kernel_rfl) (by kernel_rfl) (by kernel_rfl) (fun _ _ _ h => h) (Or.inr ⟨by rfl, rfl⟩) hHeld ?_
          simp only [Act.put, List.setIfInBounds_toArray, List.set_cons_zero, List.set_cons_succ]
          refine tk (i := 6) (N := 44) (v := undef) rfl rfl (by kernel_rfl) (by kernel_rfl) (by kernel_rfl) (fun _ _ _ h => h) (Or.inr ⟨by rfl, rfl⟩) hHeld ?_
          simp only [Act.put, List.setIfInBounds_toArray, List.set_cons_zero, List.set_cons_succ]
          refine tk (i := 7) (N := 45) (v := undef) rfl rfl (by kernel_rfl) (by kernel_rfl) (by kernel_rfl) (fun _ _ _ h => h) (Or.inr ⟨by rfl, rfl⟩) hHeld ?_
          simp only [Act.put, List.setIfInBounds_toArray, List.set_cons_zero, List.set_cons_succ]
          refine tk (i := 8) (N := 46) (v := undef) rfl rfl (by kernel_rfl) (by kernel_rfl) (by kernel_rfl) (fun _ _ _ h => h) (Or.inr ⟨by rfl, rfl⟩) hHeld ?_
          simp only [Act.put, List.setIfInBounds_toArray, List.set_cons_zero, List.set_cons_succ]
          refine tk (i := 9) (N := 47) (v := undef) rfl rfl (by kernel_rfl) (by kernel_rfl) (by kernel_rfl) (fun _ _ _ h => h) (Or.inr ⟨by rfl, rfl⟩) hHeld ?_
          simp only [Act.put, List.setIfInBounds_toArray, List.set_cons_zero, List.set_cons_succ]
          refine tk (i := 10) (N := 48) (v := undef) rfl rfl (by kernel_rfl) (by kernel_rfl) (by kernel_rfl) (fun _ _ _ h => h) (Or.inr ⟨by rfl, rfl⟩) hHeld ?_
          simp only [Act.put, List.setIfInBounds_toArray, List.set_cons_zero, List.set_cons_succ]
          refine tk (i := 11) (N := 49) (v := undef) rfl rfl (by kernel_rfl) (by kernel_rfl) (by kernel_rfl) (fun _ _ _ h => h) (Or.inr ⟨by rfl, rfl⟩) hHeld ?_
          simp only [Act.put, List.setIfInBounds_toArray, List.set_cons_zero, List.set_cons_succ]
          refine tk (i := 12) (N := 50) (v := undef) rfl rfl (by kernel_rfl) (by kernel_rfl) (by kernel_rfl) (fun _ _ _ h => h) (Or.inr ⟨by rfl, rfl⟩) hHeld ?_
          simp only [Act.put, List.setIfInBounds_toArray, List.set_cons_zero, List.set_cons_succ]
          refine tk (i := 13) (N := 51) (v := .bool false) rfl rfl (by kernel_rfl) (by kernel_rfl) (by kernel_rfl) (fun _ _ _ h => h) (Or.inl ⟨by rfl, fun w' hS => by go_simp⟩) hHeld ?_
          simp only [Act.put, List.setIfInBounds_toArray, List.set_cons_zero, List.set_cons_succ]
          refine tk (i := 14) (N := 37) (v := .bool false) rfl rfl (by kernel_rfl) (by kernel_rfl) (by kernel_rfl) (fun _ _ _ h => h) (Or.inl ⟨by rfl, fun w' hS => by go_simp⟩) hHeld ?_
          simp only [Act.put, List.setIfInBounds_toArray, List.set_cons_zero, List.set_cons_succ]
          refine wpAnyH_done (by kernel_rfl) ?_ _
          refine NoPanic.normal ?_
          go_wp2_with fail
          go_meet
          case rel => exact ⟨rfl, bdrew hB4⟩
        · obtain ⟨q, hq, hqb, hql, hqc⟩ := HPV.out (by omega)
          have t4 : decide ((0 : Int) < (j : Int)) = true := decide_eq_true (by omega)
          have t6 : decide (0 < j) = true := decide_eq_true (by omega)
          have t7 : decide (0 ≤ cmpB q.k k) = false := decide_eq_false (by have := (cmpB_lts hqb HKB.out).2 hql; omega)
          obtain ⟨i, hi⟩ : ∃ i, i = j - 1 := ⟨_, rfl⟩
          rw [← hi] at hqc
          have hb5 : Below wr.heap.size wr w4.drew := bdrew hB4
          have hcm := compare_c (w := w4.drew) (c := q.c) (d := xc) (hq.k.below hb5) (HRK.out.below hb5)
          have z1 : w4.cell? ⟨b, i * 7, none⟩ = some (.slice q.A q.k.length q.c) := cell_below hB4 hqc
          have HCM := Aside0.mk hcm
          have s0 : (j : Int) - 1 = (i : Int) := by omega
          have b0 : (0 : Int) ≤ (i : Int) := by omega
          have b1 : (i : Int) < (es.length : Int) := by omega
          clear hcm hi hq hql hqc hb5
          go_wp2_with fail
          have s1 : IntKind.i64.wrap (i : Int) = (i : Int) := by rw [IntKind.wrap_i64]; omega
          have s2 : wrap64 (i : Int) = (i : Int) := by unfold wrap64; omega
          have s3 : IntKind.i64.wrap ((j : Int) - 1) = (i : Int) := by rw [s0, s1]
          have s4 : wrap64 ((j : Int) - 1) = (i : Int) := by rw [s0, s2]
          go_region_held3 (fun w' => w'.cell? ⟨b, i * 7, none⟩ = some (.slice q.A q.k.length q.c) ∧ w'.cell? ⟨wr.heap.size, 0, none⟩ = some (.slice A k.length xc)) (go_keep) (first | (go_at_call 44; refine HCM.out.mono ?_; rintro e _ ⟨rfl, rfl⟩))
          clear s0 s1 s2 s3 s4
          go_wp2_with fail
          go_meet
          case rel => exact ⟨rfl, bdrew hB4⟩
      case rest =>
        obtain ⟨rfl, hBc⟩ := hcut
        clear z0 hB4
        go_wp2_with fail
        go_roundw
        case rel => exact ⟨j + 1, by omega, by go_num, hB.trans (hBc.mono hB.size)⟩
        case measure => simp [intOf]; omega
    · obtain rfl : j = es.length := by omega
      have t1 : decide (es.length < es.length) = false := decide_eq_false hlt
      go_wp2_with fail
      go_ret
      exact ⟨rfl, hB⟩
end Go.Proofs.Ythabkdbhjioalaa.Top
