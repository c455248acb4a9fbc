/-
  All frames at a text's front, one behind the other; conditions: those that each theorem states.
-/
import Derived.Test.YtnmiipcoojijiaaDoorGA
import Derived.Maps.OwnIn
namespace Go.Proofs.YtnmiipcoojijiaaDoor.Top
set_option linter.unusedSimpArgs false
set_option linter.unusedVariables false
open Go.RowKit Go.Proofs.YtnmiipcoojijiaaDoorW.PrintWords Go.Proofs.YtnmiipcoojijiaaDoorW.PrintLast Go.Proofs.YtnmiipcoojijiaaDoorW.PrintMore Go.Proofs.YtnmiipcoojijiaaDoor.Plain Go.Proofs.YtnmiipcoojijiaaDoor.Fns
/-- A frame that came: where it ends, its data. -/
structure FEnt where
  e : Nat
  A : Option Addr
  c : Nat
  k : List Int
def FOk (n₀ : Nat) (W : World) (x : FEnt) : Prop := W.ownsRow n₀ 5 1 (.slice x.A x.k.length x.c) x.k.length (nums .u8 x.k) ∧ x.k.length ≤ x.c
def endsF : Nat → List (List Int) → List (Nat × List Int)
  | _, [] => []
  | at', d :: ds => (at' + (d.length + 8), d) :: endsF (at' + (d.length + 8)) ds
def allF (ds : List (List Int)) : List Int := ds.flatMap frameF
theorem allF_cons (d : List Int) (ds : List (List Int)) : allF (d :: ds) = frameF d ++ allF ds := rfl
theorem allF_app (ds es : List (List Int)) : allF (ds ++ es) = allF ds ++ allF es := by unfold allF; rw [List.flatMap_append]
theorem endsF_app : ∀ (ds es : List (List Int)) (n : Nat), endsF n (ds ++ es) = endsF n ds ++ endsF (n + (allF ds).length) es
  | [], es, n => by simp [endsF, allF]
  | d :: ds, es, n => by
    rw [List.cons_append]
    show (n + (d.length + 8), d) :: endsF (n + (d.length + 8)) (ds ++ es) = (n + (d.length + 8), d) :: (endsF (n + (d.length + 8)) ds ++ _)
    rw [endsF_app ds es, allF_cons, List.length_append, frameF_len, Nat.add_assoc]
theorem endsF_len : ∀ (ds : List (List Int)) (n : Nat), (endsF n ds).length = ds.length
  | [], _ => rfl
  | d :: ds, n => by
    show (endsF _ ds).length + 1 = ds.length + 1
    rw [endsF_len ds]
/-- What a round of All's keeps: bytes, and what boxes of bytes lay there at the beginning. -/
def Kf (N : Nat) (W W' : World) : Prop := W.heap.size ≤ W'.heap.size ∧ ∀ (k : Nat) (cs : Array Value) (e : TypeId), W.heap[k]? = some (.cells cs e (0, 0)) → (e = 5 ∨ (k < N ∧ e = 60)) → W'.heap[k]? = W.heap[k]?
theorem Kf.trans {N : Nat} {A B C : World} (h : Kf N A B) (k : Kf N B C) : Kf N A C := ⟨Nat.le_trans h.1 k.1, fun b cs e hb he => (k.2 b cs e ((h.2 b cs e hb he).trans hb) he).trans (h.2 b cs e hb he)⟩
theorem Kf.of_below {N : Nat} {A B : World} (h : Below A.heap.size A B) : Kf N A B := ⟨h.size, fun b cs e hb _ => h.block b (blk_lt hb)⟩
theorem Kf.row {N n₀ : Nat} {A B : World} (h : Kf N A B) {x : FEnt} (hx : FOk n₀ A x) : FOk n₀ B x := ⟨own_move hx.1 fun k hk => by
  obtain ⟨cs, hc⟩ := own_typed hx.1 k hk
  exact h.2 k cs _ hc (.inl rfl), hx.2⟩
/-- What is known of the frames that came. -/
def FCame (fs : List (List Int)) (n₀ : Nat) (xs : List FEnt) (W : World) : Prop := xs.map (fun x => (x.e, x.k)) = (endsF 0 fs).take xs.length ∧ xs.length ≤ fs.length ∧ ∀ x ∈ xs, FOk n₀ W x
theorem FCame.kf {fs : List (List Int)} {N n₀ : Nat} {xs : List FEnt} {A B : World} (h : FCame fs n₀ xs A) (hk : Kf N A B) : FCame fs n₀ xs B := ⟨h.1, h.2.1, fun x hx => hk.row (h.2.2 x hx)⟩
theorem fcame_snoc {fs ds es : List (List Int)} {d : List Int} {n₀ : Nat} {xs : List FEnt} {wr W : World} {A : Option Addr} {c : Nat} (hE : fs = ds ++ d :: es) (hX : xs.map (fun x => (x.e, x.k)) = endsF 0 ds ∧ ∀ x ∈ xs, FOk n₀ wr x)
    (h1 : ∀ x ∈ xs, FOk n₀ W x) (h2 : FOk n₀ W ⟨(allF ds).length + (d.length + 8), A, c, d⟩) : FCame fs n₀ (xs ++ [(⟨(allF ds).length + (d.length + 8), A, c, d⟩ : FEnt)]) W := by
  have hlen : xs.length = ds.length := by have := congrArg List.length hX.1; rwa [List.length_map, endsF_len] at this
  refine ⟨?_, by rw [List.length_append, hlen, hE]; simp, fun x hx => ?_⟩
  · rw [List.map_append, hX.1, List.length_append, hlen, hE, endsF_app, Nat.zero_add]
    have : (endsF 0 ds).length = ds.length := endsF_len ds 0
    rw [List.take_append, List.take_of_length_le (by rw [this]; omega), this]
    congr 1
    rw [show ds.length + [(⟨(allF ds).length + (d.length + 8), A, c, d⟩ : FEnt)].length - ds.length = 1 by simp]
    rfl
  · rcases List.mem_append.1 hx with hx | hx
    · exact h1 x hx
    · obtain rfl := List.mem_singleton.1 hx
      exact h2
theorem RdB.kf {N : Nat} {A B : World} {a : Option Addr} {l : List Int} (h : RdB A a l) (hk : Kf N A B) (ht : ∀ x, a = Option.some x → ∃ cs, A.heap[x.block]? = Option.some (.cells cs 5 (0, 0))) : RdB B a l :=
  ⟨h.1, h.2.1, fun hn => by
    obtain ⟨ad, e, hc⟩ := h.2.2 hn
    obtain ⟨cs, hcs⟩ := ht ad e
    have hblk := hk.2 _ _ _ hcs (.inl rfl)
    refine ⟨ad, e, fun j p hj => ?_⟩
    obtain ⟨c, hs, hr, hcell⟩ := hc j p hj
    refine ⟨c, hs, hr, fun i u hu => ?_⟩
    have hb : (ad.add (j * (Kd.int .u8).sz + i)).block = ad.block := by unfold Addr.add; split <;> rfl
    exact (World.cell?_of_block (w := A) (w' := B) (by rw [hb]; exact hblk)).trans (hcell i u hu)⟩
theorem fcame_all {fs ds es : List (List Int)} {d : List Int} {n₀ : Nat} {xs : List FEnt} {x : FEnt} {W : World} (h : FCame fs n₀ (xs ++ [x]) W) (hE : fs = ds ++ d :: es) (hx : xs.length = ds.length) : (xs ++ [x]).map (fun x => (x.e, x.k)) = endsF 0 (ds ++ [d]) := by
  rw [h.1, hE, show ds ++ d :: es = (ds ++ [d]) ++ es by simp, endsF_app]
  have : (endsF 0 (ds ++ [d])).length = ds.length + 1 := by rw [endsF_len]; simp
  rw [List.take_append_of_le_length (by rw [this]; simp [hx]), List.take_of_length_le (by rw [this]; simp [hx])]
set_option maxRecDepth 100000 in
set_option maxHeartbeats 4000000 in
theorem frames1 {n : Nat} (hn : 3 ≤ n) {w : World} {B1 n₀ c N : Nat} {a : Addr} {fs : List (List Int)} (hr : RdB w (some a) (allF fs)) (hty : ∃ cs, w.heap[a.block]? = some (.cells cs 5 (0, 0))) (hc : (allF fs).length ≤ c) (hfs : ∀ d ∈ fs, Byt d ∧ d.length ≤ 65535) (hL : (allF fs).length < 100000000)
    (h1 : w.heap[B1]? = some (.cells #[.slice (some a) (allF fs).length c] 60 (0, 0))) (hB1 : B1 < N) (hn0 : n₀ ≤ w.heap.size) :
    SeqM Fence.wide n Tryd.prog 57 #[.pointer (some ⟨B1, 0, none⟩)] (fun x : FEnt => #[.int .i64 x.e, .slice x.A x.k.length x.c]) (Kf N) (fun A B => Below A.heap.size A B) (fun pre x W => FCame fs n₀ (pre ++ [x]) W)
      (fun xs W => xs.map (fun x => (x.e, x.k)) = endsF 0 fs ∧ ∀ x ∈ xs, FOk n₀ W x) w := fun l J Jx W hW hJ hJx hY h0 => by
  obtain ⟨cs0, hcs0⟩ := hty
  have hB := (hW.block B1 (blk_lt h1)).trans h1
  have hbk := (hW.block _ (blk_lt hcs0)).trans hcs0
  have HR0 := Aside0.mk (hr.below hW)
  have HF := Aside0.mk hfs
  have HL := Aside0.mk hL
  have hsz := Nat.le_trans hn0 hW.size
  have hd : 1 ≤ n - 1 := by omega
  clear hr hcs0 h1 hfs hW hn0
  refine callsIn_of_wp Tryd.func57 rfl trivial ?_ rfl
  simp only [Tryd.ntmps57, List.size_toArray, List.length_cons, List.length_nil, Nat.reduceAdd, Nat.reduceSub, Array.replicate_succ, Array.replicate_zero, List.push_toArray, List.append_toArray, List.nil_append, List.cons_append]
  generalize hLL : (allF fs).length = L at *
  have HLL := Aside0.mk hLL
  clear hLL hL
  gi_wp2
  have hmx : Tryd.prog.follows .mixedOrders = true := by kernel_rfl
  gi_loopg [3] fs.length (fun m iv wr => ∃ (i : Nat) (ds es : List (List Int)) (xs : List FEnt), iv = .int .i64 i ∧ Aside0 (i = (allF ds).length) ∧ Aside0 (fs = ds ++ es) ∧ Aside0 (xs.map (fun x => (x.e, x.k)) = endsF 0 ds ∧ ∀ x ∈ xs, FOk n₀ wr x) ∧
    Aside0 (RdB wr (some a) (allF fs)) ∧ wr.heap[B1]? = some (.cells #[.slice (some a) L c] 60 (0, 0)) ∧ wr.heap[a.block]? = some (.cells cs0 5 (0, 0)) ∧ J xs wr ∧ n₀ ≤ wr.heap.size ∧ m = es.length)
  case atStart => exact ⟨0, [], fs, [], rfl, ⟨rfl⟩, ⟨rfl⟩, ⟨rfl, fun x hx => by cases hx⟩, HR0, hB, hbk, h0, hsz, rfl⟩
  case round =>
    obtain ⟨i, ds, es, xs, rfl, HI, HE, HX, HR, hB, hbk, hJs, hzs, rfl⟩ := hrel
    have hall : allF fs = allF ds ++ allF es := by rw [HE.out, allF_app]
    have hle : L = i + (allF es).length := by rw [← HLL.out, hall, List.length_append, HI.out]
    have hdr : (allF fs).drop i = allF es := by rw [hall, HI.out, List.drop_append_of_le_length (Nat.le_refl _), List.drop_length, List.nil_append]
    have b1 : wr.cell? ⟨B1, 0, none⟩ = some (.slice (some a) L c) := (blk_cell hB 0).trans rfl
    have hiL : i ≤ L := by omega
    have q1 := cut_lo a L c i (i : Int) rfl hiL
    have hi1 : L < 100000000 := HL.out
    have HLE := Aside0.mk hle
    clear hle
    cases es with
    | nil =>
      have h0 : L - i = 0 := by rw [HLE.out]; simp [allF]
      rw [h0] at q1
      gi_wp2_with (first | (refine ⟨trivial, fun _ => by omega, ?_⟩; refine (callsIn_wide.2 next_nil).mono ?_; rintro e w2 ⟨rfl, hb2⟩) | (refine ⟨trivial, ?_⟩; refine (callsIn_wide.2 next_nil).mono ?_; rintro e w2 ⟨rfl, hb2⟩))
      refine ⟨(fun f h => by cases h), ?_⟩
      gi_wp2
      refine bodyPost_ret (results_none rfl _ _ _) rfl ?_
      refine ⟨⟨_, rfl⟩, .inl ⟨xs, ⟨?_, fun x hx => (Kf.of_below (N := N) hb2).row (HX.out.2 x hx)⟩, hJ _ _ _ hJs hb2⟩⟩
      rw [HE.out, List.append_nil]
      exact HX.out.1
    | cons d es =>
      have hdd := HF.out d (by rw [HE.out]; simp)
      have hlen : (frameF d ++ allF es).length = L - i := by
        have := HLE.out
        rw [allF_cons] at this
        omega
      have hnx := next_c (w := wr) (a := cutA a i c) (c := c - i) (d := d) (more := allF es) (by rw [← allF_cons, ← hdr]; exact cutA_rd HR.out (by rw [HLL.out]; exact hc)) (by rw [hlen]; omega) hdd.1 hdd.2 (by
        have : (frameF d ++ allF es).length = (frameF d).length + (allF es).length := List.length_append
        omega)
      rw [hlen] at hnx
      have hdi : i + (d.length + 8) ≤ L := by
        have h1 : (frameF d ++ allF es).length = (frameF d).length + (allF es).length := List.length_append
        rw [frameF_len] at h1
        omega
      have HLEN := Aside0.mk hlen
      have HDR := Aside0.mk hdr
      clear hlen hdr hall
      gi_wp2_with (first
        | (refine ⟨trivial, fun _ => by omega, ?_⟩
           refine (callsIn_wide.2 hnx).mono ?_
           rintro e w2 ⟨v, rfl, hown, hb2⟩
           obtain ⟨A6, c6, rfl, hr6, hl6, _, _⟩ := own_form hown
           have hJ2 := hJ _ _ _ hJs hb2
           have hX2 := fcame_snoc (W := w2) HE.out HX.out (fun x hx => (Kf.of_below (N := N) hb2).row (HX.out.2 x hx)) (A := A6) (c := c6) ⟨own_low hown hzs, hl6⟩
           rw [← HI.out] at hX2
           obtain ⟨fn, tmps, assign, body, hy, hR⟩ := hY xs ⟨i + (d.length + 8), A6, c6, d⟩ w2 hJ2 hX2
           have ec : ((i + (d.length + 8) : Nat) : Int) = (i : Int) + ((d.length : Int) + 8) := by omega
           simp only [ec] at hy)
        | (refine ⟨fun _ => by omega, hR.mono ?_⟩
           rintro e W3 ⟨bo, rfl, hgo, hst⟩
           cases bo))
      · refine bodyPost_ret (results_none rfl _ _ _) rfl ?_
        exact ⟨⟨_, rfl⟩, .inr ⟨_, hst trivial⟩⟩
      · obtain ⟨hJ3, hk3⟩ := hgo trivial
        have hK3 : Kf N wr W3 := (Kf.of_below hb2).trans hk3
        have hB3 := (hK3.2 B1 _ _ hB (.inr ⟨hB1, rfl⟩)).trans hB
        have hbk3 := (hK3.2 _ _ _ hbk (.inl rfl)).trans hbk
        have hX3 := (fcame_snoc (W := w2) HE.out HX.out (fun x hx => (Kf.of_below (N := N) hb2).row (HX.out.2 x hx)) (A := A6) (c := c6) ⟨own_low hown hzs, hl6⟩).kf hk3
        rw [HI.out] at hJ3
        gi_roundg es.length
        all_goals first
        | exact Nat.lt_succ_self _
        | exact ⟨i + (d.length + 8), ds ++ [d], es, _, by push_cast; rfl, ⟨by rw [allF_app, List.length_append, ← HI.out, show allF [d] = frameF d from by simp [allF], frameF_len]⟩, ⟨by rw [HE.out]; simp⟩, ⟨fcame_all hX3 HE.out (by have := congrArg List.length HX.out.1; rwa [List.length_map, endsF_len] at this), hX3.2.2⟩, ⟨HR.out.kf hK3 (fun x e => by cases e; exact ⟨_, hbk⟩)⟩, hB3, hbk3, hJ3, Nat.le_trans hzs hK3.1, rfl⟩
end Go.Proofs.YtnmiipcoojijiaaDoor.Top
namespace Go.Proofs.YtnmiipcoojijiaaDoor.Top
set_option linter.unusedSimpArgs false
set_option linter.unusedVariables false
open Go.RowKit Go.Shelf Go.Proofs.YtnmiipcoojijiaaDoorW.PrintWords Go.Proofs.YtnmiipcoojijiaaDoorW.PrintLast Go.Proofs.YtnmiipcoojijiaaDoorW.PrintMore Go.Proofs.YtnmiipcoojijiaaDoor.Plain Go.Proofs.YtnmiipcoojijiaaDoor.Fns
attribute [local go_sem] Oper.semAt_some
theorem info_sl : (Tryd.prog.info? 60).map (fun i => (i.zero, i.size, i.bytes)) = some (some (.slice none 0 0), 1, 24) := by kernel_rfl
def FEnt.sl (x : FEnt) : Value := .slice x.A x.k.length x.c
/-- What the loop holds. -/
structure FallI (w : World) (pre : List FEnt) (W : World) : Prop where
  box : ∃ v, W.heap[w.heap.size]? = some (.cells #[v] 70 (0, 0)) ∧ W.ownsRow (w.heap.size + 3) 60 1 v pre.length (pre.map FEnt.sl)
  n : W.heap[w.heap.size + 1]? = some (.cells #[.int .i64 ((pre.map FEnt.e).getLastD 0 : Nat)] 3 (0, 0))
  below : Below w.heap.size w W
  sz : w.heap.size + 3 ≤ W.heap.size
theorem FallI.step {w A B : World} {pre : List FEnt} (h : FallI w pre A) (hb : Below A.heap.size A B) : FallI w pre B := by
  obtain ⟨⟨v, h1, h2⟩, h3, h4, h5⟩ := h
  exact ⟨⟨v, (hb.block _ (blk_lt h1)).trans h1, own_below h2 hb⟩, (hb.block _ (blk_lt h3)).trans h3, h4.trans (hb.mono h4.size), Nat.le_trans h5 hb.size⟩
theorem FallI.put {w W : World} {pre : List FEnt} {l : Nat} {o o' : Obj} (h : FallI w pre W) (hw : w.heap.size ≤ l) (hl : W.heap[l]? = some o) (ho : o.isCells = false) : FallI w pre (W.putObj l o') := by
  obtain ⟨⟨v, h1, h2⟩, h3, h4, h5⟩ := h
  exact ⟨⟨v, (put_far hl ho h1).trans h1, own_put hl ho h2⟩, (put_far hl ho h3).trans h3, h4.grown (⟨rfl, rfl, rfl, by simp, fun k _ hk => World.putObj_heap_other (fun e => hk (by rw [e]))⟩ : W.grownBy (W.putObj l o') (some l)) h4.size (fun k e => by cases e; exact hw), by rw [put_size]; exact h5⟩
theorem Kf.put {N : Nat} {W : World} {l : Nat} {o o' : Obj} (hl : W.heap[l]? = some o) (ho : o.isCells = false) : Kf N W (W.putObj l o') := ⟨Nat.le_of_eq (put_size W l o').symm, fun k cs e hk _ => put_far hl ho hk⟩
theorem frames_c (w : World) (A : Option Addr) (m c : Nat) : Calls Tryd.prog 45 #[.slice A m c] w fun e w' => e = .returned (.func (.func 57) #[] #[.pointer (some ⟨w.heap.size, 0, none⟩)]) ∧ w' = w.alloc (.cells #[.slice A m c] 60) := by
  go_enter Tryd.func45, Tryd.ntmps45
  go_wp2
  go_ret
  exact ⟨rfl, rfl⟩
theorem fall_kf {N : Nat} {W w3 : World} {o : Obj} {b b2 n : Nat} {u u' y y' v : Value} {xs : List Value} (hown : W.ownsRow N 60 1 v n xs) (hg : (W.alloc o).grownBy w3 v.ownBlock) (hb : W.heap[b]? = some (.cells #[u] 70 (0, 0))) (hb2 : W.heap[b2]? = some (.cells #[y] 3 (0, 0))) : Kf N W ((w3.setCell ⟨b, 0, none⟩ u').setCell ⟨b2, 0, none⟩ y') := by
  refine ⟨?_, fun k cs e hk he => ?_⟩
  · have := hg.size
    simp [World.size_alloc] at this ⊢
    omega
  · refine (Below.heap_setCell _ _ _ _ (fun e' => ?_)).trans ((Below.heap_setCell _ _ _ _ (fun e' => ?_)).trans ((hg.block k (by simp [World.size_alloc]; have := blk_lt hk; omega) (fun hb' => ?_)).trans ((al_old hk o).trans hk.symm)))
    · subst e'
      rw [hb2] at hk
      simp only [Option.some.injEq, Obj.cells.injEq] at hk
      rcases he with rfl | ⟨_, rfl⟩
      · exact absurd hk.2.1 (by decide)
      · exact absurd hk.2.1 (by decide)
    · subst e'
      rw [hb] at hk
      simp only [Option.some.injEq, Obj.cells.injEq] at hk
      rcases he with rfl | ⟨_, rfl⟩
      · exact absurd hk.2.1 (by decide)
      · exact absurd hk.2.1 (by decide)
    · obtain ⟨cs', hc⟩ := own_typed hown k hb'.symm
      have hge := (hown.lt k hb'.symm).1
      rw [hc] at hk
      simp only [Option.some.injEq, Obj.cells.injEq] at hk
      rcases he with rfl | ⟨hlt, _⟩
      · exact absurd hk.2.1 (by decide)
      · omega
theorem ends_last : ∀ (fs : List (List Int)) (n : Nat), ((endsF n fs).map Prod.fst).getLastD n = n + (allF fs).length
  | [], n => by simp [endsF, allF]
  | d :: ds, n => by
    have ih := ends_last ds (n + (d.length + 8))
    show (((n + (d.length + 8)) :: (endsF (n + (d.length + 8)) ds).map Prod.fst)).getLastD n = _
    rw [allF_cons, List.length_append, frameF_len]
    have e : ((n + (d.length + 8)) :: (endsF (n + (d.length + 8)) ds).map Prod.fst).getLastD n = ((endsF (n + (d.length + 8)) ds).map Prod.fst).getLastD (n + (d.length + 8)) := by
      cases (endsF (n + (d.length + 8)) ds).map Prod.fst with
      | nil => simp
      | cons y ys => simp [List.getLast?_cons]
    rw [e, ih]
    omega
theorem ends_data : ∀ (fs : List (List Int)) (n : Nat), (endsF n fs).map Prod.snd = fs
  | [], n => rfl
  | d :: ds, n => by
    show d :: (endsF (n + (d.length + 8)) ds).map Prod.snd = d :: ds
    rw [ends_data ds]
def FallR (w : World) (N : Nat) (A : Option Addr) (m c : Nat) (fs : List (List Int)) (pre : List FEnt) (x : FEnt) (a : Act) (W : World) : Prop :=
  a = { tmps := #[.slice A m c, undef, .slice none 0 0, .int .i64 0, .pointer (some ⟨w.heap.size, 0, none⟩), .pointer (some ⟨w.heap.size + 1, 0, none⟩), .int .i64 x.e, .slice x.A x.k.length x.c, .slice A m c, .func (.func 57) #[] #[.pointer (some ⟨w.heap.size + 1 + 1, 0, none⟩)], .int .i64 x.e, .slice x.A x.k.length x.c, undef, undef, undef, undef, undef, undef, undef], defers := [] } ∧
  FallI w pre W ∧ FCame fs w.heap.size (pre ++ [x]) W
set_option maxRecDepth 100000 in
set_option maxHeartbeats 4000000 in
theorem fall_c {w : World} {a : Addr} {c : Nat} {fs : List (List Int)} (hr : RdB w (some a) (allF fs)) (hty : ∃ cs, w.heap[a.block]? = some (.cells cs 5 (0, 0))) (hc : (allF fs).length ≤ c) (hfs : ∀ d ∈ fs, Byt d ∧ d.length ≤ 65535) (hL : (allF fs).length < 100000000) (hlen : fs.length ≤ 10000) :
    Calls Tryd.prog 27 #[.slice (some a) (allF fs).length c] w fun e w' => ∃ (v : Value) (xs : List FEnt), e = .returned (.tuple #[v, .int .i64 ((allF fs).length : Nat)]) ∧ w'.ownsRow w.heap.size 60 1 v xs.length (xs.map FEnt.sl) ∧ xs.map FEnt.k = fs ∧ (∀ x ∈ xs, FOk w.heap.size w' x) ∧ Below w.heap.size w w' := by
  refine (callsIn_wide (n := 6)).1 ?_
  have HR := Aside0.mk hr
  have HF := Aside0.mk hfs
  have HT := Aside0.mk hty
  clear hr hfs hty
  refine callsIn_of_wp_marks Tryd.func27 rfl trivial ?_ rfl
  simp only [Tryd.ntmps27, List.size_toArray, List.length_cons, List.length_nil, Nat.reduceAdd, Nat.reduceSub, Array.replicate_succ, Array.replicate_zero, List.push_toArray, List.append_toArray, List.nil_append, List.cons_append]
  gi_wp2_with (refine ⟨trivial, ?_⟩; refine (callsIn_wide.2 (frames_c _ _ _ _)).mono ?_; rintro e w2 ⟨rfl, rfl⟩)
  obtain ⟨W0, hW0⟩ : ∃ W0, ((w.alloc (.cells #[.slice none 0 0] 70)).alloc (.cells #[.int .i64 0] 3)).alloc (.cells #[.slice (some a) (allF fs).length c] 60) = W0 := ⟨_, rfl⟩
  have hB0 : Below w.heap.size w W0 := by
    rw [← hW0]
    exact (((Below.refl _ w).alloc (Nat.le_refl _) _).alloc (by simp) _).alloc (by simp; omega) _
  have hI0 : FallI w [] W0 := ⟨⟨.slice none 0 0, by rw [← hW0]; exact al_old (al_old (al_new rfl) _) _, World.ownsRow_nil _ _ _ _⟩, by rw [← hW0]; exact al_old (al_new (by simp)) _, hB0, by rw [← hW0]; simp⟩
  have hb1 : W0.heap[w.heap.size + 2]? = some (.cells #[.slice (some a) (allF fs).length c] 60 (0, 0)) := by rw [← hW0]; exact al_new (by simp)
  have hs0 : W0.heap.size = w.heap.size + 3 := by rw [← hW0]; simp
  obtain ⟨cs0, hcs0⟩ := HT.out
  have hty0 : ∃ cs, W0.heap[a.block]? = some (.cells cs 5 (0, 0)) := ⟨cs0, (hB0.block _ (blk_lt hcs0)).trans hcs0⟩
  rw [hW0]
  clear hW0
  have hR0 := HR.out.below hB0
  have hseq := frames1 (n := 5) (N := w.heap.size + 3) (n₀ := w.heap.size) (by omega) hR0 hty0 hc HF.out hL hb1 (by omega) hB0.size
  refine range_mine (F := Fence.wide) (n := 6) rfl (by omega) (gf := 57) rfl trivial (enters_of Tryd.func57 (by kernel_rfl) rfl) hseq
    (fun l o hst _ hl _ => (hst.block l (Array.getElem?_eq_some_iff.1 hl).1).trans hl) (fun h k => h.trans k) (fun W l o o' _ hl ho _ => Kf.put hl ho)
    (fun xs W l o o' hwl hl ho hS => ⟨hS.1, fun x hx => ⟨own_put hl ho (hS.2 x hx).1, (hS.2 x hx).2⟩⟩) (Below.refl _ _) (fun _ => rfl)
    (FallI w) (fun pre A B h hst => h.step hst) (fun pre W l o o' hwl hl ho h => h.put (by omega) hl ho) (fun W o h => h.step ((Below.refl _ W).alloc (Nat.le_refl _) _)) hI0
    (fun _ _ _ => False) (fun _ _ _ _ h _ => h) (fun _ _ _ _ _ _ _ _ _ h => h)
    (FallR w (w.heap.size + 3) (some a) (allF fs).length c fs) (fun pre x a' W l o o' hwl hl ho h => ⟨h.1, h.2.1.put (by omega) hl ho, h.2.2.kf (Kf.put (N := w.heap.size + 3) hl ho)⟩) ?assign ?body ?done (fun _ _ _ _ _ h _ => h.elim)
  case assign =>
    intro l pre x W K hI hX hK
    gi_wp2
    exact hK _ _ ⟨rfl, hI, hX⟩ (Below.refl _ _) (Kf.of_below (Below.refl _ _))
  case body =>
    rintro l pre x a' W ⟨rfl, ⟨⟨v, hv, hown⟩, hm, hB, hsz⟩, hX⟩
    obtain ⟨i0, hi, hzz⟩ := Option.map_eq_some_iff.1 info_sl
    simp only [Prod.mk.injEq] at hzz
    obtain ⟨hz0, hz1, hz2⟩ := hzz
    have c0 : W.cell? ⟨w.heap.size, 0, none⟩ = some v := (blk_cell hv 0).trans rfl
    have hl63 : pre.length ≤ 10000 := by have := hX.2.1; simp only [List.length_append, List.length_singleton] at this; omega
    have hBs := hB.size
    have hlt1 := blk_lt hm
    unfold FEnt.sl at hown
    gi_wp2_with (first
      | (gi_at_builtin; refine wpListIn_append_own_at _ rfl _ _ 70 rfl (w.heap.size + 3) 60 i0 _ 1 24 Tryd.underlying70 hi hz0 hz1 hz2 rfl (by decide) _ _ _ rfl (hown.alloc _) ⟨W.heap.size, 0, none⟩ 1 1 [.slice x.A x.k.length x.c] rfl rfl (cell_one_new _ _ _) (fun u hu => by (simp at hu; subst hu; rfl)) (by simp only [maxLen]; omega) (by omega) (by simp [World.size_alloc]; omega) ?_; intro v' w3 hown' hg3 hnil3 hat3
         obtain ⟨g', cap', cur', rfl, hbase', hgb', hr1, hr2, hr3, hr4⟩ := own_some hown' (by omega)
         have hv3 := row_box hv hown hg3
         have hm3 := row_box hm hown hg3
         obtain ⟨hc3, hf3⟩ := cell_of_box hv3
         obtain ⟨hc4, hf4⟩ := cell_of_box hm3
         go_frame)
      | fail)
    have hm4 : (w3.setCell ⟨w.heap.size, 0, none⟩ (.slice (some ⟨g', 0, none⟩) (pre.length + 1) cap')).heap[w.heap.size + 1]? = some (.cells #[.int .i64 ((pre.map FEnt.e).getLastD 0 : Nat)] 3 (0, 0)) := (Below.heap_setCell _ _ _ _ (by simp)).trans hm3
    have hko : KeepsOthers W ((w3.setCell ⟨w.heap.size, 0, none⟩ (.slice (some ⟨g', 0, none⟩) (pre.length + 1) cap')).setCell ⟨w.heap.size + 1, 0, none⟩ (.int .i64 x.e)) := (((KeepsOthers.alloc _ _).trans (KeepsOthers.of_grownBy hg3 (fun j o hj ho => by
          obtain ⟨cs, hc⟩ := own_typed (hown.alloc _) j hj
          rw [hc] at ho
          cases ho
          rfl))).trans (KeepsOthers.setCell _ _ _)).trans (KeepsOthers.setCell _ _ _)
    refine ⟨hko, fall_kf hown hg3 hv hm, ⟨⟨_, (Below.heap_setCell _ _ _ _ (by simp)).trans (blk_put hv3 0 _ rfl), ?_⟩, ?_, ?_, ?_⟩⟩
    · have h := own_move (w1 := (w3.setCell ⟨w.heap.size, 0, none⟩ (.slice (some ⟨g', 0, none⟩) (pre.length + 1) cap')).setCell ⟨w.heap.size + 1, 0, none⟩ (.int .i64 x.e)) hown' (fun k hk => by
        obtain ⟨cs, hc⟩ := own_typed hown' k hk
        refine (Below.heap_setCell _ _ _ _ (fun e => ?_)).trans (Below.heap_setCell _ _ _ _ (fun e => ?_))
        · subst e
          rw [hm3] at hc
          simp at hc
        · subst e
          rw [hv3] at hc
          simp at hc)
      rw [List.map_append, List.length_append]
      exact h
    · have := blk_put hm4 0 (.int .i64 x.e) rfl
      simpa using this
    · exact (((hB.alloc hB.size _).grown hg3 (by simp; omega) (fun k hk => by have := (hown.lt k hk).1; omega)).setCell (p := ⟨w.heap.size, 0, none⟩) (Nat.le_refl _) _).setCell (p := ⟨w.heap.size + 1, 0, none⟩) (by simp) _
    · have := hg3.size
      simp [World.size_alloc] at this ⊢
      omega
  case done =>
    rintro D xs W hD hS ⟨⟨v, hv, hown⟩, hm, hB, hsz⟩ hK
    have c0 : W.cell? ⟨w.heap.size, 0, none⟩ = some v := (blk_cell hv 0).trans rfl
    have c1 : W.cell? ⟨w.heap.size + 1, 0, none⟩ = some (.int .i64 ((xs.map FEnt.e).getLastD 0 : Nat)) := (blk_cell hm 0).trans rfl
    have hlast : (xs.map FEnt.e).getLastD 0 = (allF fs).length := by
      have := ends_last fs 0
      have e : (Prod.fst ∘ fun (x : FEnt) => (x.e, x.k)) = FEnt.e := rfl
      rw [← hS.1, List.map_map, e] at this
      simpa using this
    rw [hlast] at c1
    have hmx : Tryd.prog.follows .mixedOrders = true := by kernel_rfl
    gi_wp2
    refine Code.wpIn_mono NoPanic.imp ?_
    gi_region_with_o fail
    all_goals
      refine NoPanic.normal ?_
      gi_wp2
      refine ⟨by simp, .inl ⟨_, _, rfl, run_takeDeferred (show W.drew.heap[D]? = _ from hK), ?_⟩⟩
      have hBd := below_drew hB
      have hgr : (W.drew).grownBy (W.drew.putObj D (.deferred none)) (some D) := ⟨rfl, rfl, rfl, by simp, fun k _ hk => World.putObj_heap_other (fun e => hk (by rw [e]))⟩
      refine ⟨_, results_tmp2 rfl _ _ _, v, xs, rfl, own_low (own_put (W := W.drew) hK rfl (own_below hown (below_drew (Below.refl _ _)))) (by omega), ?_, fun x hx => ⟨own_put (W := W.drew) hK rfl (own_below (hS.2 x hx).1 (below_drew (Below.refl _ _))), (hS.2 x hx).2⟩, hBd.grown hgr hBd.size (fun k e => by cases e; omega)⟩
      have e2 : (Prod.snd ∘ fun (x : FEnt) => (x.e, x.k)) = FEnt.k := rfl
      have := congrArg (List.map Prod.snd) hS.1
      rw [List.map_map, e2] at this
      rw [this]
      exact ends_data fs 0
set_option maxHeartbeats 2000000 in
set_option maxRecDepth 100000 in
theorem next_front {w : World} {A : Option Addr} {c t : Nat} {l d : List Int} (hl : l = (frameF d).take t) (ht : t < d.length + 8) (hr : RdB w A l) (hc : l.length ≤ c) (hd : d.length ≤ 65535) :
    Calls Tryd.prog 58 #[.slice A l.length c] w fun e w' => e = .returned (.tuple #[.slice none 0 0, .int .i64 0, .int .i64 10]) ∧ Below w.heap.size w w' := by
  have hL : l.length = t := by rw [hl, List.length_take, frameF_len]; omega
  by_cases h4 : l.length < 4
  · have t1 : decide ((l.length : Int) < 4) = true := decide_eq_true (by omega)
    have t2 : decide (l.length < 4) = true := decide_eq_true h4
    clear hl hr
    go_enter Tryd.func58, Tryd.ntmps58
    go_wp2_with fail
    refine bodyPost_ret (results_tmp3 rfl _ _ _) rfl ?_
    exact ⟨rfl, Below.refl _ _⟩
  · obtain ⟨more, hm⟩ : ∃ more, l = fourB ((d.length : Nat) : Int) ++ more := ⟨l.drop 4, by
      have h1 : l.take 4 = fourB ((d.length : Nat) : Int) := by
        rw [hl, List.take_take, Nat.min_eq_left (by omega)]
        unfold frameF frontF
        rw [List.append_assoc, List.take_append_of_le_length (by rw [fourB_len]; omega), List.take_of_length_le (by rw [fourB_len]; omega)]
      rw [← h1, List.take_append_drop]⟩
    have hn1 := number_c (w := w) (A := A) (c := c) (n := l.length) (x := d.length) (more := more) (by omega) (by rw [← hm]; exact hr) (by rw [← hm]) hc
    have HN1 := Aside0.mk hn1
    have t1 : decide ((l.length : Int) < 4) = false := decide_eq_false (by omega)
    have t2 : decide ((65535 : Int) < (d.length : Int)) = false := decide_eq_false (by omega)
    have t3 : decide ((l.length : Int) < (d.length : Int) + 8) = true := decide_eq_true (by omega)
    have t4 : decide (65535 < d.length) = false := decide_eq_false (by omega)
    have t5 : decide (l.length < d.length + 8) = true := decide_eq_true (by omega)
    have t6 : decide (l.length < 4) = false := decide_eq_false h4
    have e1 : wrap64 ((d.length : Int) + 8) = (d.length : Int) + 8 := by unfold wrap64; omega
    have e2 : wrap64 (d.length : Int) = (d.length : Int) := by unfold wrap64; omega
    clear hn1 hl hr hm hL h4 ht
    generalize l.length = L at *
    generalize d.length = D at *
    go_enter Tryd.func58, Tryd.ntmps58
    go_wp2_with (first | (go_at_call 75; refine HN1.out.mono ?_; rintro e w2 ⟨rfl, hd2⟩; have HD2 := Aside0.mk hd2.below; clear hd2) | go_step3 | fail)
    refine bodyPost_ret (results_tmp3 rfl _ _ _) rfl ?_
    exact ⟨rfl, HD2.out⟩
end Go.Proofs.YtnmiipcoojijiaaDoor.Top
namespace Go.Proofs.YtnmiipcoojijiaaDoor.Top
set_option linter.unusedSimpArgs false
set_option linter.unusedVariables false
open Go.RowKit Go.Proofs.YtnmiipcoojijiaaDoorW.PrintWords Go.Proofs.YtnmiipcoojijiaaDoorW.PrintLast Go.Proofs.YtnmiipcoojijiaaDoorW.PrintMore Go.Proofs.YtnmiipcoojijiaaDoor.Plain Go.Proofs.YtnmiipcoojijiaaDoor.Fns
set_option maxRecDepth 100000 in
set_option maxHeartbeats 4000000 in
theorem frames1q {n t : Nat} {q d0 : List Int} (hq : q = (frameF d0).take t) (ht : t < d0.length + 8) (hd0 : d0.length ≤ 65535) (hn : 3 ≤ n) {w : World} {B1 n₀ c N : Nat} {a : Addr} {fs : List (List Int)} (hr : RdB w (some a) (allF fs ++ q)) (hty : ∃ cs, w.heap[a.block]? = some (.cells cs 5 (0, 0))) (hc : (allF fs ++ q).length ≤ c) (hfs : ∀ d ∈ fs, Byt d ∧ d.length ≤ 65535) (hL : (allF fs ++ q).length < 100000000)
    (h1 : w.heap[B1]? = some (.cells #[.slice (some a) (allF fs ++ q).length c] 60 (0, 0))) (hB1 : B1 < N) (hn0 : n₀ ≤ w.heap.size) :
    SeqM Fence.wide n Tryd.prog 57 #[.pointer (some ⟨B1, 0, none⟩)] (fun x : FEnt => #[.int .i64 x.e, .slice x.A x.k.length x.c]) (Kf N) (fun A B => Below A.heap.size A B) (fun pre x W => FCame fs n₀ (pre ++ [x]) W)
      (fun xs W => xs.map (fun x => (x.e, x.k)) = endsF 0 fs ∧ ∀ x ∈ xs, FOk n₀ W x) w := fun l J Jx W hW hJ hJx hY h0 => by
  obtain ⟨cs0, hcs0⟩ := hty
  have hB := (hW.block B1 (blk_lt h1)).trans h1
  have hbk := (hW.block _ (blk_lt hcs0)).trans hcs0
  have HR0 := Aside0.mk (hr.below hW)
  have HF := Aside0.mk hfs
  have HQ := Aside0.mk (And.intro hq (And.intro ht hd0))
  clear hq ht hd0
  have HL := Aside0.mk hL
  have hsz := Nat.le_trans hn0 hW.size
  have hd : 1 ≤ n - 1 := by omega
  clear hr hcs0 h1 hfs hW hn0
  refine callsIn_of_wp Tryd.func57 rfl trivial ?_ rfl
  simp only [Tryd.ntmps57, List.size_toArray, List.length_cons, List.length_nil, Nat.reduceAdd, Nat.reduceSub, Array.replicate_succ, Array.replicate_zero, List.push_toArray, List.append_toArray, List.nil_append, List.cons_append]
  generalize hLL : (allF fs ++ q).length = L at *
  have HLL := Aside0.mk hLL
  clear hLL hL
  gi_wp2
  have hmx : Tryd.prog.follows .mixedOrders = true := by kernel_rfl
  gi_loopg [3] fs.length (fun m iv wr => ∃ (i : Nat) (ds es : List (List Int)) (xs : List FEnt), iv = .int .i64 i ∧ Aside0 (i = (allF ds).length) ∧ Aside0 (fs = ds ++ es) ∧ Aside0 (xs.map (fun x => (x.e, x.k)) = endsF 0 ds ∧ ∀ x ∈ xs, FOk n₀ wr x) ∧
    Aside0 (RdB wr (some a) (allF fs ++ q)) ∧ wr.heap[B1]? = some (.cells #[.slice (some a) L c] 60 (0, 0)) ∧ wr.heap[a.block]? = some (.cells cs0 5 (0, 0)) ∧ J xs wr ∧ n₀ ≤ wr.heap.size ∧ m = es.length)
  case atStart => exact ⟨0, [], fs, [], rfl, ⟨rfl⟩, ⟨rfl⟩, ⟨rfl, fun x hx => by cases hx⟩, HR0, hB, hbk, h0, hsz, rfl⟩
  case round =>
    obtain ⟨i, ds, es, xs, rfl, HI, HE, HX, HR, hB, hbk, hJs, hzs, rfl⟩ := hrel
    have hall : allF fs ++ q = allF ds ++ (allF es ++ q) := by rw [HE.out, allF_app, List.append_assoc]
    have hle : L = i + (allF es ++ q).length := by rw [← HLL.out, hall, List.length_append, HI.out]
    have hdr : (allF fs ++ q).drop i = allF es ++ q := by rw [hall, HI.out, List.drop_append_of_le_length (Nat.le_refl _), List.drop_length, List.nil_append]
    have b1 : wr.cell? ⟨B1, 0, none⟩ = some (.slice (some a) L c) := (blk_cell hB 0).trans rfl
    have hiL : i ≤ L := by omega
    have q1 := cut_lo a L c i (i : Int) rfl hiL
    have hi1 : L < 100000000 := HL.out
    have HLE := Aside0.mk hle
    clear hle
    cases es with
    | nil =>
      have h0 : L - i = q.length := by rw [HLE.out]; simp [allF]
      rw [h0] at q1
      have hrq : RdB wr (some (cutA a i c)) q := by
        have h9 := cutA_rd (i := i) HR.out (by rw [HLL.out]; exact hc)
        rw [hdr] at h9
        exact h9
      have hnf := next_front (c := c - i) HQ.out.1 HQ.out.2.1 hrq (by omega) HQ.out.2.2
      gi_wp2_with (first | (refine ⟨trivial, fun _ => by omega, ?_⟩; refine (callsIn_wide.2 hnf).mono ?_; rintro e w2 ⟨rfl, hb2⟩) | (refine ⟨trivial, ?_⟩; refine (callsIn_wide.2 hnf).mono ?_; rintro e w2 ⟨rfl, hb2⟩))
      refine ⟨(fun f h => by cases h), ?_⟩
      gi_wp2
      refine bodyPost_ret (results_none rfl _ _ _) rfl ?_
      refine ⟨⟨_, rfl⟩, .inl ⟨xs, ⟨?_, fun x hx => (Kf.of_below (N := N) hb2).row (HX.out.2 x hx)⟩, hJ _ _ _ hJs hb2⟩⟩
      rw [HE.out, List.append_nil]
      exact HX.out.1
    | cons d es =>
      have hdd := HF.out d (by rw [HE.out]; simp)
      have hlen : (frameF d ++ (allF es ++ q)).length = L - i := by
        have := HLE.out
        rw [allF_cons, List.append_assoc] at this
        omega
      have hnx := next_c (w := wr) (a := cutA a i c) (c := c - i) (d := d) (more := allF es ++ q) (by rw [← List.append_assoc, ← allF_cons, ← hdr]; exact cutA_rd HR.out (by rw [HLL.out]; exact hc)) (by rw [hlen]; omega) hdd.1 hdd.2 (by
        have : (frameF d ++ (allF es ++ q)).length = (frameF d).length + (allF es ++ q).length := List.length_append
        omega)
      rw [hlen] at hnx
      have hdi : i + (d.length + 8) ≤ L := by
        have h1 : (frameF d ++ (allF es ++ q)).length = (frameF d).length + (allF es ++ q).length := List.length_append
        rw [frameF_len] at h1
        omega
      have HLEN := Aside0.mk hlen
      have HDR := Aside0.mk hdr
      clear hlen hdr hall
      gi_wp2_with (first
        | (refine ⟨trivial, fun _ => by omega, ?_⟩
           refine (callsIn_wide.2 hnx).mono ?_
           rintro e w2 ⟨v, rfl, hown, hb2⟩
           obtain ⟨A6, c6, rfl, hr6, hl6, _, _⟩ := own_form hown
           have hJ2 := hJ _ _ _ hJs hb2
           have hX2 := fcame_snoc (W := w2) HE.out HX.out (fun x hx => (Kf.of_below (N := N) hb2).row (HX.out.2 x hx)) (A := A6) (c := c6) ⟨own_low hown hzs, hl6⟩
           rw [← HI.out] at hX2
           obtain ⟨fn, tmps, assign, body, hy, hR⟩ := hY xs ⟨i + (d.length + 8), A6, c6, d⟩ w2 hJ2 hX2
           have ec : ((i + (d.length + 8) : Nat) : Int) = (i : Int) + ((d.length : Int) + 8) := by omega
           simp only [ec] at hy)
        | (refine ⟨fun _ => by omega, hR.mono ?_⟩
           rintro e W3 ⟨bo, rfl, hgo, hst⟩
           cases bo))
      · refine bodyPost_ret (results_none rfl _ _ _) rfl ?_
        exact ⟨⟨_, rfl⟩, .inr ⟨_, hst trivial⟩⟩
      · obtain ⟨hJ3, hk3⟩ := hgo trivial
        have hK3 : Kf N wr W3 := (Kf.of_below hb2).trans hk3
        have hB3 := (hK3.2 B1 _ _ hB (.inr ⟨hB1, rfl⟩)).trans hB
        have hbk3 := (hK3.2 _ _ _ hbk (.inl rfl)).trans hbk
        have hX3 := (fcame_snoc (W := w2) HE.out HX.out (fun x hx => (Kf.of_below (N := N) hb2).row (HX.out.2 x hx)) (A := A6) (c := c6) ⟨own_low hown hzs, hl6⟩).kf hk3
        rw [HI.out] at hJ3
        gi_roundg es.length
        all_goals first
        | exact Nat.lt_succ_self _
        | exact ⟨i + (d.length + 8), ds ++ [d], es, _, by push_cast; rfl, ⟨by rw [allF_app, List.length_append, ← HI.out, show allF [d] = frameF d from by simp [allF], frameF_len]⟩, ⟨by rw [HE.out]; simp⟩, ⟨fcame_all hX3 HE.out (by have := congrArg List.length HX.out.1; rwa [List.length_map, endsF_len] at this), hX3.2.2⟩, ⟨HR.out.kf hK3 (fun x e => by cases e; exact ⟨_, hbk⟩)⟩, hB3, hbk3, hJ3, Nat.le_trans hzs hK3.1, rfl⟩
end Go.Proofs.YtnmiipcoojijiaaDoor.Top
namespace Go.Proofs.YtnmiipcoojijiaaDoor.Top
set_option linter.unusedSimpArgs false
set_option linter.unusedVariables false
open Go.RowKit Go.Shelf Go.Proofs.YtnmiipcoojijiaaDoorW.PrintWords Go.Proofs.YtnmiipcoojijiaaDoorW.PrintLast Go.Proofs.YtnmiipcoojijiaaDoorW.PrintMore Go.Proofs.YtnmiipcoojijiaaDoor.Plain Go.Proofs.YtnmiipcoojijiaaDoor.Fns
attribute [local go_sem] Oper.semAt_some
set_option maxRecDepth 100000 in
set_option maxHeartbeats 4000000 in
theorem fall_q {w : World} {t L : Nat} {q d0 : List Int} (hq : q = (frameF d0).take t) (ht : t < d0.length + 8) (hd0 : d0.length ≤ 65535) {a : Addr} {c : Nat} {fs : List (List Int)} (hr : RdB w (some a) (allF fs ++ q)) (hty : ∃ cs, w.heap[a.block]? = some (.cells cs 5 (0, 0))) (hc : L ≤ c) (hfs : ∀ d ∈ fs, Byt d ∧ d.length ≤ 65535) (hLL : L = (allF fs ++ q).length) (hL : L < 100000000) (hlen : fs.length ≤ 10000) :
    Calls Tryd.prog 27 #[.slice (some a) L c] w fun e w' => ∃ (v : Value) (xs : List FEnt), e = .returned (.tuple #[v, .int .i64 ((allF fs).length : Nat)]) ∧ w'.ownsRow w.heap.size 60 1 v xs.length (xs.map FEnt.sl) ∧ xs.map FEnt.k = fs ∧ (∀ x ∈ xs, FOk w.heap.size w' x) ∧ Below w.heap.size w w' := by
  refine (callsIn_wide (n := 6)).1 ?_
  have HR := Aside0.mk hr
  have HQ := Aside0.mk (And.intro hq (And.intro ht hd0))
  have HLL := Aside0.mk hLL
  clear hq ht hd0 hLL
  have HF := Aside0.mk hfs
  have HT := Aside0.mk hty
  clear hr hfs hty
  refine callsIn_of_wp_marks Tryd.func27 rfl trivial ?_ rfl
  simp only [Tryd.ntmps27, List.size_toArray, List.length_cons, List.length_nil, Nat.reduceAdd, Nat.reduceSub, Array.replicate_succ, Array.replicate_zero, List.push_toArray, List.append_toArray, List.nil_append, List.cons_append]
  gi_wp2_with (refine ⟨trivial, ?_⟩; refine (callsIn_wide.2 (frames_c _ _ _ _)).mono ?_; rintro e w2 ⟨rfl, rfl⟩)
  obtain ⟨W0, hW0⟩ : ∃ W0, ((w.alloc (.cells #[.slice none 0 0] 70)).alloc (.cells #[.int .i64 0] 3)).alloc (.cells #[.slice (some a) L c] 60) = W0 := ⟨_, rfl⟩
  have hB0 : Below w.heap.size w W0 := by
    rw [← hW0]
    exact (((Below.refl _ w).alloc (Nat.le_refl _) _).alloc (by simp) _).alloc (by simp; omega) _
  have hI0 : FallI w [] W0 := ⟨⟨.slice none 0 0, by rw [← hW0]; exact al_old (al_old (al_new rfl) _) _, World.ownsRow_nil _ _ _ _⟩, by rw [← hW0]; exact al_old (al_new (by simp)) _, hB0, by rw [← hW0]; simp⟩
  have hb1 : W0.heap[w.heap.size + 2]? = some (.cells #[.slice (some a) L c] 60 (0, 0)) := by rw [← hW0]; exact al_new (by simp)
  have hs0 : W0.heap.size = w.heap.size + 3 := by rw [← hW0]; simp
  obtain ⟨cs0, hcs0⟩ := HT.out
  have hty0 : ∃ cs, W0.heap[a.block]? = some (.cells cs 5 (0, 0)) := ⟨cs0, (hB0.block _ (blk_lt hcs0)).trans hcs0⟩
  rw [hW0]
  clear hW0
  have hR0 := HR.out.below hB0
  have hseq := frames1q HQ.out.1 HQ.out.2.1 HQ.out.2.2 (n := 5) (N := w.heap.size + 3) (n₀ := w.heap.size) (by omega) hR0 hty0 (by rw [← HLL.out]; exact hc) HF.out (by rw [← HLL.out]; exact hL) (by rw [← HLL.out]; exact hb1) (by omega) hB0.size
  refine range_mine (F := Fence.wide) (n := 6) rfl (by omega) (gf := 57) rfl trivial (enters_of Tryd.func57 (by kernel_rfl) rfl) hseq
    (fun l o hst _ hl _ => (hst.block l (Array.getElem?_eq_some_iff.1 hl).1).trans hl) (fun h k => h.trans k) (fun W l o o' _ hl ho _ => Kf.put hl ho)
    (fun xs W l o o' hwl hl ho hS => ⟨hS.1, fun x hx => ⟨own_put hl ho (hS.2 x hx).1, (hS.2 x hx).2⟩⟩) (Below.refl _ _) (fun _ => rfl)
    (FallI w) (fun pre A B h hst => h.step hst) (fun pre W l o o' hwl hl ho h => h.put (by omega) hl ho) (fun W o h => h.step ((Below.refl _ W).alloc (Nat.le_refl _) _)) hI0
    (fun _ _ _ => False) (fun _ _ _ _ h _ => h) (fun _ _ _ _ _ _ _ _ _ h => h)
    (FallR w (w.heap.size + 3) (some a) L c fs) (fun pre x a' W l o o' hwl hl ho h => ⟨h.1, h.2.1.put (by omega) hl ho, h.2.2.kf (Kf.put (N := w.heap.size + 3) hl ho)⟩) ?assign ?body ?done (fun _ _ _ _ _ h _ => h.elim)
  case assign =>
    intro l pre x W K hI hX hK
    gi_wp2
    exact hK _ _ ⟨rfl, hI, hX⟩ (Below.refl _ _) (Kf.of_below (Below.refl _ _))
  case body =>
    rintro l pre x a' W ⟨rfl, ⟨⟨v, hv, hown⟩, hm, hB, hsz⟩, hX⟩
    obtain ⟨i0, hi, hzz⟩ := Option.map_eq_some_iff.1 info_sl
    simp only [Prod.mk.injEq] at hzz
    obtain ⟨hz0, hz1, hz2⟩ := hzz
    have c0 : W.cell? ⟨w.heap.size, 0, none⟩ = some v := (blk_cell hv 0).trans rfl
    have hl63 : pre.length ≤ 10000 := by have := hX.2.1; simp only [List.length_append, List.length_singleton] at this; omega
    have hBs := hB.size
    have hlt1 := blk_lt hm
    unfold FEnt.sl at hown
    gi_wp2_with (first
      | (gi_at_builtin; refine wpListIn_append_own_at _ rfl _ _ 70 rfl (w.heap.size + 3) 60 i0 _ 1 24 Tryd.underlying70 hi hz0 hz1 hz2 rfl (by decide) _ _ _ rfl (hown.alloc _) ⟨W.heap.size, 0, none⟩ 1 1 [.slice x.A x.k.length x.c] rfl rfl (cell_one_new _ _ _) (fun u hu => by (simp at hu; subst hu; rfl)) (by simp only [maxLen]; omega) (by omega) (by simp [World.size_alloc]; omega) ?_; intro v' w3 hown' hg3 hnil3 hat3
         obtain ⟨g', cap', cur', rfl, hbase', hgb', hr1, hr2, hr3, hr4⟩ := own_some hown' (by omega)
         have hv3 := row_box hv hown hg3
         have hm3 := row_box hm hown hg3
         obtain ⟨hc3, hf3⟩ := cell_of_box hv3
         obtain ⟨hc4, hf4⟩ := cell_of_box hm3
         go_frame)
      | fail)
    have hm4 : (w3.setCell ⟨w.heap.size, 0, none⟩ (.slice (some ⟨g', 0, none⟩) (pre.length + 1) cap')).heap[w.heap.size + 1]? = some (.cells #[.int .i64 ((pre.map FEnt.e).getLastD 0 : Nat)] 3 (0, 0)) := (Below.heap_setCell _ _ _ _ (by simp)).trans hm3
    have hko : KeepsOthers W ((w3.setCell ⟨w.heap.size, 0, none⟩ (.slice (some ⟨g', 0, none⟩) (pre.length + 1) cap')).setCell ⟨w.heap.size + 1, 0, none⟩ (.int .i64 x.e)) := (((KeepsOthers.alloc _ _).trans (KeepsOthers.of_grownBy hg3 (fun j o hj ho => by
          obtain ⟨cs, hc⟩ := own_typed (hown.alloc _) j hj
          rw [hc] at ho
          cases ho
          rfl))).trans (KeepsOthers.setCell _ _ _)).trans (KeepsOthers.setCell _ _ _)
    refine ⟨hko, fall_kf hown hg3 hv hm, ⟨⟨_, (Below.heap_setCell _ _ _ _ (by simp)).trans (blk_put hv3 0 _ rfl), ?_⟩, ?_, ?_, ?_⟩⟩
    · have h := own_move (w1 := (w3.setCell ⟨w.heap.size, 0, none⟩ (.slice (some ⟨g', 0, none⟩) (pre.length + 1) cap')).setCell ⟨w.heap.size + 1, 0, none⟩ (.int .i64 x.e)) hown' (fun k hk => by
        obtain ⟨cs, hc⟩ := own_typed hown' k hk
        refine (Below.heap_setCell _ _ _ _ (fun e => ?_)).trans (Below.heap_setCell _ _ _ _ (fun e => ?_))
        · subst e
          rw [hm3] at hc
          simp at hc
        · subst e
          rw [hv3] at hc
          simp at hc)
      rw [List.map_append, List.length_append]
      exact h
    · have := blk_put hm4 0 (.int .i64 x.e) rfl
      simpa using this
    · exact (((hB.alloc hB.size _).grown hg3 (by simp; omega) (fun k hk => by have := (hown.lt k hk).1; omega)).setCell (p := ⟨w.heap.size, 0, none⟩) (Nat.le_refl _) _).setCell (p := ⟨w.heap.size + 1, 0, none⟩) (by simp) _
    · have := hg3.size
      simp [World.size_alloc] at this ⊢
      omega
  case done =>
    rintro D xs W hD hS ⟨⟨v, hv, hown⟩, hm, hB, hsz⟩ hK
    have c0 : W.cell? ⟨w.heap.size, 0, none⟩ = some v := (blk_cell hv 0).trans rfl
    have c1 : W.cell? ⟨w.heap.size + 1, 0, none⟩ = some (.int .i64 ((xs.map FEnt.e).getLastD 0 : Nat)) := (blk_cell hm 0).trans rfl
    have hlast : (xs.map FEnt.e).getLastD 0 = (allF fs).length := by
      have := ends_last fs 0
      have e : (Prod.fst ∘ fun (x : FEnt) => (x.e, x.k)) = FEnt.e := rfl
      rw [← hS.1, List.map_map, e] at this
      simpa using this
    rw [hlast] at c1
    have hmx : Tryd.prog.follows .mixedOrders = true := by kernel_rfl
    gi_wp2
    refine Code.wpIn_mono NoPanic.imp ?_
    gi_region_with_o fail
    all_goals
      refine NoPanic.normal ?_
      gi_wp2
      refine ⟨by simp, .inl ⟨_, _, rfl, run_takeDeferred (show W.drew.heap[D]? = _ from hK), ?_⟩⟩
      have hBd := below_drew hB
      have hgr : (W.drew).grownBy (W.drew.putObj D (.deferred none)) (some D) := ⟨rfl, rfl, rfl, by simp, fun k _ hk => World.putObj_heap_other (fun e => hk (by rw [e]))⟩
      refine ⟨_, results_tmp2 rfl _ _ _, v, xs, rfl, own_low (own_put (W := W.drew) hK rfl (own_below hown (below_drew (Below.refl _ _)))) (by omega), ?_, fun x hx => ⟨own_put (W := W.drew) hK rfl (own_below (hS.2 x hx).1 (below_drew (Below.refl _ _))), (hS.2 x hx).2⟩, hBd.grown hgr hBd.size (fun k e => by cases e; omega)⟩
      have e2 : (Prod.snd ∘ fun (x : FEnt) => (x.e, x.k)) = FEnt.k := rfl
      have := congrArg (List.map Prod.snd) hS.1
      rw [List.map_map, e2] at this
      rw [this]
      exact ends_data fs 0
end Go.Proofs.YtnmiipcoojijiaaDoor.Top
