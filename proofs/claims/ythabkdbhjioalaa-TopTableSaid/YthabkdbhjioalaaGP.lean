/-
  table.Open on a table's bytes; conditions: those that each theorem states.
-/
import Derived.Test.YthabkdbhjioalaaGO
namespace Go.Proofs.Ythabkdbhjioalaa.Top
set_option linter.unusedSimpArgs false
set_option linter.unusedVariables false
open Go.RowKit Go.Proofs.YthabkdbhjioalaaW.PrintWords Go.Proofs.YthabkdbhjioalaaW.PrintLast Go.Proofs.YthabkdbhjioalaaW.PrintMore Go.Proofs.Ythabkdbhjioalaa.Plain Go.Proofs.Ythabkdbhjioalaa.Fns
/-- All but entries is kept. -/
def Kne (A B : World) : Prop := A.heap.size ≤ B.heap.size ∧ ∀ (k : Nat) (cs : Array Value) (e : TypeId), A.heap[k]? = some (.cells cs e (0, 0)) → e ≠ 36 → B.heap[k]? = A.heap[k]?
theorem Kne.trans {A B C : World} (h : Kne A B) (k : Kne B C) : Kne A C := ⟨Nat.le_trans h.1 k.1, fun b cs e hb he => (k.2 b cs e ((h.2 b cs e hb he).trans hb) he).trans (h.2 b cs e hb he)⟩
theorem Kne.of_below {A B : World} (h : Below A.heap.size A B) : Kne A B := ⟨h.size, fun b cs e hb _ => h.block b (blk_lt hb)⟩
theorem Kne.own {A B : World} {base n sz : Nat} {e : TypeId} {v : Value} {xs : List Value} (h : Kne A B) (he : e ≠ 36) (ho : A.ownsRow base e sz v n xs) : B.ownsRow base e sz v n xs := own_move ho fun k hk => by
  obtain ⟨cs, hc⟩ := own_typed ho k hk
  exact h.2 k cs _ hc he
theorem Kne.grow {W W3 : World} {base n sz : Nat} {v : Value} {xs : List Value} (hown : W.ownsRow base 36 sz v n xs) (hg : W.grownBy W3 v.ownBlock) : Kne W W3 :=
  ⟨hg.size, fun k cs e hk he => (box_grown hk hown hg he).trans hk.symm⟩
theorem EOwn.kne {n : Nat} {A B : World} {x : Ent} (h : EOwn n A x) (hk : Kne A B) : EOwn n B x := ⟨hk.own (by decide) h.1, h.2⟩
theorem FOk.kne {n : Nat} {A B : World} {x : FEnt} (h : FOk n A x) (hk : Kne A B) : FOk n B x := ⟨hk.own (by decide) h.1, h.2⟩
/-- A row of entries as it is read. -/
theorem erow_own {W : World} {base n c b : Nat} {xs : List Ent} (h : W.ownsRow base 36 7 (.slice (some ⟨b, 0, none⟩) n c) xs.length (xs.flatMap Ent.cells)) (hx : ∀ x ∈ xs, EOwn base W x) : ERow W b 0 xs := by
  obtain ⟨A, c', e, hc⟩ := row_slice h
  cases e
  have hl := h.1
  refine ⟨fun j hj m u hu => ?_, fun x hx' => (hx x hx').rd⟩
  have hm : m < 7 := by
    have := (List.getElem?_eq_some_iff.1 hu).1
    simpa [Ent.cells] using this
  obtain ⟨g', e1, _, e2⟩ := hc (j * 7 + m) (by omega)
  rw [flat_get xs j m hj hm, hu] at e2
  simp only [Option.some.injEq, Addr.mk.injEq] at e1
  rw [← e1.1] at e2
  rw [show 0 + j * 7 + m = j * 7 + m by omega]
  exact e2
/-- A table in memory. -/
structure TbAt (W : World) (base T : Nat) (kas : Kas) : Prop where
  ex : ∃ (R : Option Addr) (bc : Nat) (xs : List FEnt) (iv : Value) (ps : List Pr) (F g : Nat),
    W.heap[T]? = some (.cells #[.slice R (nprt kas.length) bc, iv, .pointer (some ⟨F, 0, none⟩), .int .i64 (kas.length : Nat)] 86 (0, 0)) ∧
    W.ownsRow base 23 1 (.slice R xs.length bc) xs.length (xs.map FEnt.sl) ∧ xs.map FEnt.k = framesF kas ∧ (∀ x ∈ xs, FOk base W x) ∧
    W.ownsRow base 75 2 iv ps.length (ps.flatMap Pr.cells) ∧ ps.map Pr.kv = idxF kas (nprt kas.length) ∧ (∀ p ∈ ps, POwn base W p) ∧ FlAt W base F g 6 (fltF kas)
  Tb : base ≤ T
theorem elem_sl : Try.prog.elem 80 = 23 := by simp [Program.elem, Try.underlying80]
theorem under_sl : Try.prog.underlying 80 = some (.slice (Try.prog.elem 80)) := by rw [elem_sl]; exact Try.underlying80
theorem size_sl (W : World) : (sizeOf (Try.prog.elem 80)).run Try.prog W = .ok 1 W := by
  obtain ⟨i0, hi, hzz⟩ := Option.map_eq_some_iff.1 info_sl
  simp only [Prod.mk.injEq] at hzz
  rw [elem_sl]
  simp [sizeOf, typeInfo, hi, hzz.2.1, Result.andThen]
theorem cut_sl_hi (a : Option Addr) (n c j : Nat) (z : Int) (hz : z = (j : Int)) (hj : j ≤ c) (W : World) :
    (Instr.slice 80 (.slice a n c) none (some (.int .i64 z)) none).run Try.prog W = .ok (.slice a j c) W := by
  subst hz
  rw [run_slice_h W 80 a n c under_sl .i64 (j : Int) (by omega) (by omega), size_sl]
  simp only [Result.andThen, sliced, Int.toNat_natCast, Nat.mul_one, Nat.sub_zero]
  by_cases hc : c = 0
  · rw [if_pos hc]
  · rw [if_neg hc]
    cases a <;> simp [Addr.add]
theorem frow_cell {W : World} {base fb m c : Nat} {xs : List FEnt} (h : W.ownsRow base 23 1 (.slice (some ⟨fb, 0, none⟩) m c) xs.length (xs.map FEnt.sl)) (i : Nat) (hi : i < xs.length) : W.cell? ⟨fb, i, none⟩ = some (.slice xs[i].A xs[i].k.length xs[i].c) := by
  obtain ⟨A, c', e, hc⟩ := row_slice h
  cases e
  obtain ⟨g', e1', _, e2'⟩ := hc i (by simpa using hi)
  simp only [Option.some.injEq, Addr.mk.injEq] at e1'
  rw [← e1'.1, List.getElem?_map, List.getElem?_eq_getElem hi] at e2'
  exact e2'
theorem erow_news {W : World} {base pb n c : Nat} {zs : List Ent} (h : W.ownsRow base 36 7 (.slice (some ⟨pb, 0, none⟩) n c) zs.length (zs.flatMap Ent.cells)) : ∀ j u, (zs.flatMap Ent.cells)[j]? = some u → W.cell? ((⟨pb, 0, none⟩ : Addr).add j) = some u := fun j u hu => by
  obtain ⟨A, c', e, hc⟩ := row_slice h
  cases e
  obtain ⟨g', e1', _, e2'⟩ := hc j (List.getElem?_eq_some_iff.1 hu).1
  simp only [Option.some.injEq, Addr.mk.injEq] at e1'
  rw [← e1'.1, hu] at e2'
  have ea : ((⟨pb, 0, none⟩ : Addr).add j) = ⟨pb, j, none⟩ := by
    by_cases h : j = 0
    · subst h
      rfl
    · simp [Addr.add, h]
  rw [ea]
  exact e2'
theorem flat_one (zs : List Ent) : ∀ u ∈ zs.flatMap Ent.cells, u.oneCell' = true := fun u hu => by
  obtain ⟨x, _, hx⟩ := List.mem_flatMap.1 hu
  exact cells_one x u hx
theorem rowB_pos {kvs : List (List Int × List Int)} (h : 0 < kvs.length) : 1 ≤ (rowB 0 [] kvs).length := by
  cases kvs with
  | nil => simp at h
  | cons x r =>
    have := pairB_pos 0 [] x.1 x.2
    rw [rowB, List.length_append]
    omega
theorem frames_byt {kas : Kas} (h : EOk kas) (hn : kas.length ≤ 80) : ∀ d ∈ framesF kas, Byt d ∧ d.length ≤ 65535 := by
  have hidx := idx_ok h (n := nprt kas.length) (fun i hi => by unfold nprt at hi; omega)
  have hidl := idx_le h (n := nprt kas.length) (fun i hi => by unfold nprt at hi; omega)
  have hnp : nprt kas.length ≤ 5 := by unfold nprt; omega
  intro d hd
  unfold framesF at hd
  rcases List.mem_append.1 hd with hd | hd
  · obtain ⟨i, hi, rfl⟩ := List.mem_map.1 hd
    have h1 := blk_le h i
    exact ⟨rowB_byt _ _ _ fun x hx => ⟨((h.prt i).kv.k x hx).1, ((h.prt i).kv.v x hx).1⟩, by omega⟩
  · simp only [List.mem_cons, List.not_mem_nil, or_false] at hd
    rcases hd with rfl | rfl | rfl
    · exact ⟨rowB_byt _ _ _ fun x hx => ⟨(hidx.k x hx).1, (hidx.v x hx).1⟩, by omega⟩
    · refine ⟨fun x hx => ?_, ?_⟩
      · rcases List.mem_cons.1 hx with rfl | hx
        · omega
        · exact bloF_byt _ _ (fun y hy => by rw [List.mem_replicate] at hy; rw [hy.2]; omega) x hx
      · simp only [List.length_cons, fltF, bloF_len, List.length_replicate]
        unfold dgF
        omega
    · exact ⟨byt_app (numb_byt _ _) (numb_byt _ _), by simp [numb_length]⟩
theorem table_le {kas : Kas} (h : EOk kas) (hn : kas.length ≤ 80) : (tableF kas).length ≤ 200000 := by
  have hidl := idx_le h (n := nprt kas.length) (fun i hi => by unfold nprt at hi; omega)
  have hnp : nprt kas.length ≤ 5 := by unfold nprt; omega
  have hbl := blks_le h (nprt kas.length)
  unfold tableF framesF
  rw [allF_app, allF_cons, allF_cons, allF_cons]
  simp only [List.length_append, frameF_len, List.length_cons, fltF, bloF_len, List.length_replicate, numb_length, allF, List.flatMap_nil, List.length_nil]
  unfold allF at hbl
  have : dgF kas.length ≤ 8192 := by unfold dgF; omega
  omega
set_option maxRecDepth 100000 in
set_option maxHeartbeats 8000000 in
theorem topen_c {w : World} {a : Addr} {c : Nat} {kas : Kas} (hr : RdB w (some a) (tableF kas)) (hty : ∃ cs, w.heap[a.block]? = some (.cells cs 5 (0, 0))) (hc : (tableF kas).length ≤ c) (hok : EOk kas) (hn : kas.length ≤ 80) :
    Calls Try.prog 11 #[.slice (some a) (tableF kas).length c] w fun e w' => ∃ T, e = .returned (.tuple #[.pointer (some ⟨T, 0, none⟩), .int .i64 0]) ∧ TbAt w' w.heap.size T kas ∧ Below w.heap.size w w' := by
  have hfb := frames_byt hok hn
  have htl := table_le hok hn
  have hnp : nprt kas.length ≤ 5 := by unfold nprt; omega
  have hfl : (framesF kas).length = nprt kas.length + 3 := by simp [framesF, blksF]
  have hall := fall_c hr hty hc hfb (by unfold tableF at htl; omega) (by omega)
  rw [show allF (framesF kas) = tableF kas from rfl] at hall
  have HALL := Aside0.mk hall
  have HOK := Aside0.mk hok
  have HR := Aside0.mk hr
  have HFB := Aside0.mk hfb
  have HC := Aside0.mk hc
  have HFL := Aside0.mk hfl
  obtain ⟨tl, htl2⟩ : ∃ tl, (tableF kas).length = tl := ⟨_, rfl⟩
  obtain ⟨n, hnn⟩ : ∃ n, nprt kas.length = n := ⟨_, rfl⟩
  clear hr hty hc hok hfb hall hfl
  rw [htl2] at htl HALL ⊢
  rw [hnn] at hnp HFL
  have HTL := Aside0.mk htl2
  have HNN := Aside0.mk hnn
  clear htl2 hnn
  go_enter Try.func11, Try.ntmps11
  go_upto_region 2 with (first
    | (go_at_call 36
       refine HALL.out.mono ?_
       rintro e w2 ⟨v2, xs, rfl, ho2, hxk, hx2, hb2⟩
       obtain ⟨R2, bc, rfl, hrow2⟩ := row_slice ho2)
    | fail)
  have hxl : xs.length = n + 3 := by have := congrArg List.length hxk; rw [List.length_map, HFL.out] at this; exact this
  obtain ⟨fb, rfl, hfblt, _⟩ := hrow2 0 (by simp; omega)
  have hcell : ∀ i (hi : i < xs.length), w2.cell? ⟨fb, i, none⟩ = some (.slice xs[i].A xs[i].k.length xs[i].c) := fun i hi => by
    obtain ⟨g', e1', _, e2'⟩ := hrow2 i (by simpa using hi)
    simp only [Option.some.injEq, Addr.mk.injEq] at e1'
    rw [← e1'.1, List.getElem?_map, List.getElem?_eq_getElem hi] at e2'
    exact e2'
  have hfrk : ∀ i (hi : i < xs.length) (hi' : i < (framesF kas).length), xs[i].k = (framesF kas)[i] := fun i hi hi' => by
    have := congrArg (fun l => l[i]?) hxk
    simp only [List.getElem?_map, List.getElem?_eq_getElem hi, List.getElem?_eq_getElem hi', Option.map_some, Option.some.injEq] at this
    exact this
  have hbsl : (blksF kas n).length = n := by simp [blksF]
  have hk2 : xs[n + 2].k = numb kas.length 8 ++ numb (allF (blksF kas n)).length 8 := by
    rw [hfrk (n + 2) (by omega) (by rw [HFL.out]; omega)]
    unfold framesF
    simp only [HNN.out]
    rw [List.getElem_append_right (by omega)]
    simp [hbsl]
  have hk1 : ∀ h : n + 1 < xs.length, xs[n + 1].k = (6 : Int) :: fltF kas := fun h => by
    rw [hfrk (n + 1) (by omega) (by rw [HFL.out]; omega)]
    unfold framesF
    simp only [HNN.out]
    rw [List.getElem_append_right (by omega)]
    simp [hbsl]
  have hk0 : ∀ h : n < xs.length, xs[n].k = rowB 0 [] (idxF kas n) := fun h => by
    rw [hfrk n (by omega) (by rw [HFL.out]; omega)]
    unfold framesF
    simp only [HNN.out]
    rw [List.getElem_append_right (by omega)]
    simp [hbsl]
  have hkb : ∀ i (h : i < xs.length), i < n → xs[i].k = blkF kas i := fun i h hi => by
    rw [hfrk i (by omega) (by rw [HFL.out]; omega)]
    unfold framesF
    simp only [HNN.out]
    rw [List.getElem_append_left (by omega)]
    simp [blksF]
  have hc2 := hcell (n + 2) (by omega)
  rw [hk2, show (numb kas.length 8 ++ numb (allF (blksF kas n)).length 8).length = 16 by simp [numb_length]] at hc2
  clear hk2
  generalize xs[n + 2] = f2 at hc2
  have hbc : n + 3 ≤ bc := by have := own_le ho2; omega
  have qc : ∀ W : World, (Instr.slice 80 (.slice (some ⟨fb, 0, none⟩) xs.length bc) none (some (.int .i64 (n : Nat))) none).run Try.prog W = .ok (.slice (some ⟨fb, 0, none⟩) n bc) W := cut_sl_hi _ _ _ _ _ rfl (by omega)
  have HO2 := Aside0.mk ho2
  have HCELL := Aside0.mk hcell
  have HX2 := Aside0.mk hx2
  have HXK := Aside0.mk hxk
  have HK1 := Aside0.mk hk1
  have HK0 := Aside0.mk hk0
  have HKB := Aside0.mk hkb
  have HXL := Aside0.mk hxl
  obtain ⟨i2, hi2⟩ : ∃ i2, n + 2 = i2 := ⟨_, rfl⟩
  obtain ⟨i1, hi1⟩ : ∃ i1, n + 1 = i1 := ⟨_, rfl⟩
  have e1 : (xs.length : Int) - 1 = (i2 : Int) := by omega
  have e2 : (xs.length : Int) - 3 = (n : Int) := by omega
  have e3 : (xs.length : Int) - 2 = (i1 : Int) := by omega
  have t1 : decide ((xs.length : Int) < 3) = false := decide_eq_false (by omega)
  have t2 : decide (xs.length < 3) = false := decide_eq_false (by omega)
  have b1 : (i2 : Int) < (xs.length : Int) := by omega
  have b2 : (i1 : Int) < (xs.length : Int) := by omega
  have b3 : (n : Int) < (xs.length : Int) := by omega
  simp only [hi2] at hc2
  have HI2 := Aside0.mk hi2
  have HI1 := Aside0.mk hi1
  clear ho2 hcell hx2 hxk hk1 hk0 hkb hxl hi2 hi1 hfrk hrow2 hbsl
  go_wp2_with fail
  obtain ⟨wS, hwS⟩ : ∃ wS, w2.alloc (.cells #[.slice (some ⟨fb, 0, none⟩) n bc, .slice none 0 0, .pointer none, .int .i64 0] 86) = wS := ⟨_, rfl⟩
  have hbS : Below w2.heap.size w2 wS := by rw [← hwS]; exact (Below.refl _ _).alloc (Nat.le_refl _) _
  have hTS : wS.heap[w2.heap.size]? = some (.cells #[.slice (some ⟨fb, 0, none⟩) n bc, .slice none 0 0, .pointer none, .int .i64 0] 86 (0, 0)) := by rw [← hwS]; exact al_new rfl
  have hBS : Below w.heap.size w wS := hb2.trans (hbS.mono hb2.size)
  rw [hwS]
  clear hwS
  obtain ⟨T, hT⟩ : ∃ T, w2.heap.size = T := ⟨_, rfl⟩
  rw [hT] at hTS ⊢
  have hTw : w.heap.size ≤ T := by rw [← hT]; exact hb2.size
  have HTS := Aside0.mk hTS
  have HOS := Aside0.mk (own_below HO2.out hbS)
  have HXS := Aside0.mk (fun x hx => (show FOk w.heap.size wS x from ⟨own_below (HX2.out x hx).1 hbS, (HX2.out x hx).2⟩))
  clear hTS hbS hT hc2 qc
  go_loopw [7, 55] (fun o i wr => ∃ (j : Nat) (ys : List Ent), j ≤ n ∧ i = .int .i64 j ∧ Aside0 (wr.ownsRow w.heap.size 36 7 o ys.length (ys.flatMap Ent.cells)) ∧ Aside0 (ys.map Ent.ka = kas.take (16 * j)) ∧ Aside0 (∀ x ∈ ys, EOwn w.heap.size wr x) ∧ Aside0 (Kne wS wr) ∧ Below w.heap.size w wr) (fun _ i _ => n - (intOf i).toNat)
  case atStart => exact ⟨0, [], by omega, rfl, ⟨World.ownsRow_nil _ _ _ _⟩, ⟨rfl⟩, ⟨fun x hx => by cases hx⟩, ⟨Kne.of_below (Below.refl _ _)⟩, hBS⟩
  case round =>
    obtain ⟨j, ys, hj, rfl, HY, HKA, HE, HK, hB⟩ := hrel
    have hosr := HK.out.own (by decide) HOS.out
    by_cases hlt : j < n
    · have s1 : decide ((j : Int) < (n : Int)) = true := decide_eq_true (by omega)
      have s2 : decide (j < n) = true := decide_eq_true hlt
      have hjx : j < xs.length := by rw [HXL.out]; omega
      have x0 := frow_cell hosr j hjx
      have hfo := (HXS.out _ (List.getElem_mem hjx)).kne HK.out
      have hkj := HKB.out j hjx hlt
      generalize xs[j] = f at *
      obtain ⟨fe, fA, fc, fk⟩ := f
      simp only at hkj
      subst hkj
      have hp16 : 16 * j < kas.length := by have := HNN.out; unfold nprt at this; omega
      have hpl : (prtF kas j).length = partN kas.length j := prt_len _ _
      have hpos : 0 < (prtF kas j).length := by rw [hpl]; unfold partN; omega
      obtain ⟨hfo1, hfo2⟩ := hfo
      simp only at hfo1 hfo2 x0
      have hb1 : 1 ≤ (blkF kas j).length := rowB_pos (by simpa [kvsF] using hpos)
      obtain ⟨fa, fc', e0, hfr, hfc⟩ := own_b hfo1 hb1
      cases e0
      have hent := entries_c (w := wr) (es := prtF kas j) hfr (own_typed hfo1 fa.block rfl) hfc (HOK.out.prt j) (by have := blk_le HOK.out j; unfold blkF at this; omega)
      have HENT := Aside0.mk hent
      have HPOS := Aside0.mk hpos
      have hyl : ys.length ≤ 80 := by have := congrArg List.length HKA.out; simp at this; omega
      obtain ⟨i0, hi, hzz⟩ := Option.map_eq_some_iff.1 info7
      simp only [Prod.mk.injEq] at hzz
      obtain ⟨hz0, hz1, hz2⟩ := hzz
      unfold blkF at x0
      clear hent hpos hpl hosr hfo1 hfo2 hfr hfc hb1
      go_wp2_with (first
        | (go_at_call 37
           refine HENT.out.mono ?_
           rintro e w5 ⟨v5, zs, rfl, ho5, hka5, he5, hb5⟩
           have hzl : zs.length = (prtF kas j).length := by have := congrArg List.length hka5; simpa using this
           have hzl16 : zs.length ≤ 16 := by rw [hzl]; simp [prtF]; omega
           obtain ⟨R5, c5, rfl, hrow5⟩ := row_slice ho5
           obtain ⟨pb, rfl, _, _⟩ := hrow5 0 (by rw [ho5.1, hzl]; have := HPOS.out; omega)
           have hY5 := own_below HY.out hb5
           have HY5 := Aside0.mk hY5
           have HO5 := Aside0.mk ho5
           clear hY5 ho5 hrow5 hzl)
        | (at_builtin
           refine wpList_append_own_at _ rfl _ _ 22 rfl w.heap.size 36 i0 _ 7 72 Try.underlying22 hi hz0 hz1 hz2 rfl (by decide) _ _ _ rfl HY5.out ⟨pb, 0, none⟩ zs.length c5 (zs.flatMap Ent.cells) rfl HO5.out.1 (erow_news HO5.out) (flat_one zs) (by simp only [maxLen]; omega) (by omega) (by have := hB.size; have := hb5.size; omega) ?_
           intro v7 w7 hown7 hg7 hnil7 hat7)
        | fail)
      have hk57 := Kne.grow HY5.out hg7
      have hkr5 : Kne wr w5 := Kne.of_below hb5
      have hBB : Below w.heap.size w w5 := hB.trans (hb5.mono hB.size)
      go_roundw
      case rel =>
        refine ⟨j + 1, ys ++ zs, by omega, by go_num, ⟨?_⟩, ⟨?_⟩, ⟨fun x hx => ?_⟩, ⟨(HK.out.trans hkr5).trans hk57⟩, ?_⟩
        · rw [List.length_append, List.flatMap_append]
          exact hown7
        · rw [List.map_append, HKA.out, hka5, prt_take]
        · rcases List.mem_append.1 hx with hx | hx
          · exact ((HE.out x hx).kne hkr5).kne hk57
          · have h1 := he5 x hx
            exact EOwn.kne ⟨own_low h1.1 hB.size, h1.2⟩ hk57
        · exact hBB.grown hg7 hBB.size (fun k hk => (HY5.out.lt k hk).1)
      case measure => simp [intOf]; omega
    · obtain rfl : j = n := by omega
      have s1 : decide ((j : Int) < (j : Int)) = false := decide_eq_false (by omega)
      have s2 : decide (j < j) = false := decide_eq_false hlt
      have hka := HKA.out
      rw [show kas.take (16 * j) = kas from List.take_of_length_le (by have := HNN.out; unfold nprt at this; omega)] at hka
      obtain ⟨R7, c7, rfl, hrow7⟩ := row_slice HY.out
      have hyl : ys.length = kas.length := by have := congrArg List.length hka; simpa using this
      obtain ⟨b7, hb7, her7⟩ : ∃ b7, (ys ≠ [] → R7 = some ⟨b7, 0, none⟩) ∧ ERow wr b7 0 ys := by
        rcases Nat.eq_zero_or_pos ys.length with h0 | h0
        · have : ys = [] := List.eq_nil_of_length_eq_zero h0
          subst this
          exact ⟨0, fun h => absurd rfl h, ⟨fun j hj => by simp at hj, fun x hx => by cases hx⟩⟩
        · obtain ⟨g', rfl, _, _⟩ := hrow7 0 (by rw [HY.out.1]; omega)
          exact ⟨g', fun _ => rfl, erow_own HY.out HE.out⟩
      have htw := twrite_c (c := c7) hb7 her7 (own_le HY.out) hka HOK.out (by omega)
      have HTW := Aside0.mk htw
      have HYL := Aside0.mk hyl
      have hfr := HK.out.own (by decide) HOS.out
      have HFR := Aside0.mk hfr
      have HXR := Aside0.mk (fun x hx => (HXS.out x hx).kne HK.out)
      have HTR := Aside0.mk ((HK.out.2 _ _ _ HTS.out (by decide)).trans HTS.out)
      have hkl : kas.length ≤ 80 := hn
      clear hka hb7 her7 hrow7 htw hyl hfr
      go_upto_region 16 with (first
        | (go_at_call 9
           refine HTW.out.mono ?_
           rintro e w8 ⟨v8, rfl, ho8, hb8⟩
           obtain ⟨A8, c8, hv8, hr8, hc8, hn8, _⟩ := own_form ho8
           rw [HTL.out] at hv8
           subst hv8
           have hB8 : Below w.heap.size w w8 := hB.trans (hb8.mono hB.size)
           have heq := equal_c (w := w8) (c := c8) (d := c) hr8 (HR.out.below hB8) hc8 HC.out (by
             intro x hx
             have h1 : Byt (allF (framesF kas)) := by
               intro y hy
               unfold allF at hy
               obtain ⟨d, hd, hyd⟩ := List.mem_flatMap.1 hy
               exact frameF_byt (HFB.out d hd).1 y hyd
             exact h1 x hx) (by
             intro x hx
             have h1 : Byt (allF (framesF kas)) := by
               intro y hy
               unfold allF at hy
               obtain ⟨d, hd, hyd⟩ := List.mem_flatMap.1 hy
               exact frameF_byt (HFB.out d hd).1 y hyd
             exact h1 x hx) (r := true) (by simp)
           rw [HTL.out] at heq
           have HEQ := Aside0.mk heq
           have HF8 := Aside0.mk (own_below HFR.out hb8)
           have HX8 := Aside0.mk (fun x hx => (show FOk w.heap.size w8 x from ⟨own_below (HXR.out x hx).1 hb8, (HXR.out x hx).2⟩))
           have HT8 := Aside0.mk ((hb8.block _ (blk_lt HTR.out)).trans HTR.out)
           clear heq ho8 hr8)
        | fail)
      have hnx : j < xs.length := by rw [HXL.out]; omega
      have hi1x : i1 < xs.length := by rw [HXL.out, ← HI1.out]; omega
      have x0 := frow_cell HF8.out j hnx
      have hf0 := HX8.out _ (List.getElem_mem hnx)
      have hk0 := HK0.out hnx
      have hk1 := HK1.out (by rw [HI1.out]; exact hi1x)
      simp only [HI1.out] at hk1
      have hx1 := frow_cell HF8.out i1 hi1x
      have hf1 := HX8.out _ (List.getElem_mem hi1x)
      generalize xs[j] = f0 at *
      generalize xs[i1] = f1 at *
      obtain ⟨e0, A0, c0, k0⟩ := f0
      obtain ⟨e1', A1, c1, k1⟩ := f1
      simp only at hk0 hk1
      subst hk0 hk1
      obtain ⟨hf01, hf02⟩ := hf0
      obtain ⟨hf11, hf12⟩ := hf1
      simp only at hf01 hf02 hf11 hf12 x0 hx1
      have hidx := idx_ok HOK.out (n := j) (fun i hi => by have := HNN.out; unfold nprt at this; omega)
      have hidl := idx_le HOK.out (n := j) (fun i hi => by have := HNN.out; unfold nprt at this; omega)
      have hdl : (fltF kas).length = dgF kas.length := by simp [fltF, bloF_len]
      have hd1 : 1 ≤ dgF kas.length ∧ dgF kas.length ≤ 8192 := by unfold dgF; omega
      obtain ⟨fa1, fc1, ee1, hfr1, hfc1⟩ := own_b hf11 (by simp)
      cases ee1
      simp only [List.length_cons] at hx1 hfc1
      obtain ⟨fl1, hfl1⟩ : ∃ fl1, (fltF kas).length + 1 = fl1 := ⟨_, rfl⟩
      rw [hfl1] at hx1 hfc1
      have HF11 := Aside0.mk hf11
      have HFR1 := Aside0.mk hfr1
      have HFL1 := Aside0.mk hfl1
      have HF01 := Aside0.mk hf01
      have HIDX := Aside0.mk hidx
      have HX1C := Aside0.mk hx1
      have HDL := Aside0.mk hdl
      clear hf11 hfr1 hfl1 hf01 hidx hx1 hdl
      have hrdI : ∀ W : World, Below w8.heap.size w8 W → Calls Try.prog 38 #[.slice A0 (rowB 0 [] (idxF kas j)).length c0] W fun e w' => ∃ (v : Value) (xs : List Pr), e = .returned (.tuple #[v, .int .i64 0]) ∧ w'.ownsRow W.heap.size 75 2 v xs.length (xs.flatMap Pr.cells) ∧ xs.map Pr.kv = idxF kas j ∧ (∀ x ∈ xs, POwn W.heap.size w' x) ∧ Below W.heap.size W w' := fun W hW => by
        rcases Nat.eq_zero_or_pos (rowB 0 [] (idxF kas j)).length with h0 | h0
        · have he : idxF kas j = [] := by
            rcases Nat.eq_zero_or_pos (idxF kas j).length with h1 | h1
            · exact List.eq_nil_of_length_eq_zero h1
            · have := rowB_pos h1
              omega
          rw [h0, he]
          exact blkread_0
        · obtain ⟨fa0, fc0, ee0, hfr0, hfc0⟩ := own_b HF01.out h0
          cases ee0
          obtain ⟨cs0, hcs0⟩ := own_typed HF01.out fa0.block rfl
          exact blkread_c (hfr0.below hW) ⟨cs0, (hW.block _ (blk_lt hcs0)).trans hcs0⟩ hfc0 HIDX.out (by omega)
      have HRDI := Aside0.mk hrdI
      clear hrdI
      generalize (rowB 0 [] (idxF kas j)).length = b0 at *
      have hBw8 : Below w.heap.size w w8 := hB.trans (hb8.mono hB.size)
      have hTw8 : T < w8.heap.size := blk_lt HT8.out
      go_wp2_with (first
        | (go_at_call 23
           refine HEQ.out.mono ?_
           rintro e _ ⟨rfl, nd, rfl⟩
           have hb9 : Below w8.heap.size w8 (w8.drewN nd) := bdrewN (Below.refl _ _))
        | (go_at_call 38
           refine (HRDI.out _ hb9).mono ?_
           rintro e wa ⟨va, ps, rfl, hoa, hpk, hpo, hba⟩
           obtain ⟨Ra, rca, rfl, _⟩ := row_slice hoa
           have hb8a : Below w8.heap.size w8 wa := hb9.trans (hba.mono hb9.size)
           have hTa := (hb8a.block _ hTw8).trans HT8.out
           have ya1 : wa.cell? ⟨T, 1, none⟩ = some (.slice none 0 0) := (blk_cell hTa 1).trans rfl
           have fa1' := blk_frozen hTa 1
           have hTb := blk_put hTa 1 (.slice Ra ps.length rca) rfl
           have hob := own_set (i := 1) (u := .slice Ra ps.length rca) hTa hoa
           have hpb : ∀ p ∈ ps, POwn (w8.drewN nd).heap.size (wa.setCell ⟨T, 1, none⟩ (.slice Ra ps.length rca)) p := fun p hp => ⟨own_set hTa (hpo p hp).k, own_set hTa (hpo p hp).v, (hpo p hp).kc, (hpo p hp).vc⟩
           have hfb' := own_set (i := 1) (u := .slice Ra ps.length rca) hTa (own_below HF8.out hb8a)
           have hf1b := own_set (i := 1) (u := .slice Ra ps.length rca) hTa (own_below HF11.out hb8a)
           have hxb : ∀ x ∈ xs, FOk w.heap.size (wa.setCell ⟨T, 1, none⟩ (.slice Ra ps.length rca)) x := fun x hx => ⟨own_set hTa (own_below (HX8.out x hx).1 hb8a), (HX8.out x hx).2⟩
           have hBa : Below w.heap.size w (wa.setCell ⟨T, 1, none⟩ (.slice Ra ps.length rca)) := (hBw8.trans (hb8a.mono hBw8.size)).setCell (p := ⟨T, 1, none⟩) hTw _
           have hx1b : (wa.setCell ⟨T, 1, none⟩ (.slice Ra ps.length rca)).cell? ⟨fb, i1, none⟩ = some (.slice (some fa1) fl1 c1) := by
             have h1 := cell_below hb8a HX1C.out
             obtain ⟨cs', hcs'⟩ := own_typed HF8.out fb rfl
             exact (World.cell?_setCell_far _ _ _ _ (blk_ne HT8.out hcs' (by decide))).trans h1
           have hbr := bread_c (w := wa.setCell ⟨T, 1, none⟩ (.slice Ra ps.length rca)) (A := fa1) (n := fl1) (c := c1) (hs := 6) (bl := fltF kas) (own_read hf1b) HFL1.out.symm hfc1 (by omega) (by omega) (by rw [HDL.out]; exact hd1.1) (by rw [HDL.out]; exact hd1.2)
           have HBR := Aside0.mk hbr
           clear hbr)
        | (go_at_call 39
           refine HBR.out.mono ?_
           rintro e wc ⟨F, g, rfl, hfl, hbc'⟩
           have hTc := (hbc'.block _ (blk_lt hTb)).trans hTb
           have yc2 : wc.cell? ⟨T, 2, none⟩ = some (.pointer none) := (blk_cell hTc 2).trans rfl
           have fc2 := blk_frozen hTc 2
           have yc3 : wc.cell? ⟨T, 3, none⟩ = some (.int .i64 0) := (blk_cell hTc 3).trans rfl
           have fc3 := blk_frozen hTc 3)
        | fail)
      go_ret2
      have hTd := blk_put hTc 2 (.pointer (some ⟨F, 0, none⟩)) rfl
      have hTe := blk_put hTd 3 (.int .i64 (ys.length : Nat)) rfl
      have hBc : Below w.heap.size w wc := hBa.trans (hbc'.mono hBa.size)
      have two : ∀ {base n sz : Nat} {e : TypeId} {v : Value} {zs : List Value}, wc.ownsRow base e sz v n zs → 86 ≠ e → ((wc.setCell ⟨T, 2, none⟩ (.pointer (some ⟨F, 0, none⟩))).setCell ⟨T, 3, none⟩ (.int .i64 (ys.length : Nat))).ownsRow base e sz v n zs := fun h hne => own_set hTd (own_set hTc h hne) hne
      have hsw : w.heap.size ≤ (wa.setCell ⟨T, 1, none⟩ (.slice Ra ps.length rca)).heap.size := hBa.size
      refine ⟨T, rfl, ⟨⟨some ⟨fb, 0, none⟩, bc, xs, .slice Ra ps.length rca, ps, F, g, ?_, two (own_below hfb' hbc') (by decide), HXK.out, fun x hx => ⟨two (own_below (hxb x hx).1 hbc') (by decide), (hxb x hx).2⟩, own_low (two (own_below hob hbc') (by decide)) (by have := hBw8.size; exact this), ?_, fun p hp => ⟨own_low (two (own_below (hpb p hp).k hbc') (by decide)) hBw8.size, own_low (two (own_below (hpb p hp).v hbc') (by decide)) hBw8.size, (hpb p hp).kc, (hpb p hp).vc⟩, ?_⟩, hTw⟩, (hBc.setCell (p := ⟨T, 2, none⟩) hTw _).setCell (p := ⟨T, 3, none⟩) hTw _⟩
      · rw [HNN.out, ← HYL.out]
        exact hTe
      · rw [HNN.out]
        exact hpk
      · have hne1 : F ≠ T := fun e => by have := hfl.fb; rw [e, hTc] at this; simp at this
        have hne2 : g ≠ T := fun e => by have := hfl.gb; rw [e, hTc] at this; simp at this
        exact ⟨((Below.heap_setCell _ _ _ _ hne1).trans (Below.heap_setCell _ _ _ _ hne1)).trans hfl.fb, ((Below.heap_setCell _ _ _ _ hne2).trans (Below.heap_setCell _ _ _ _ hne2)).trans hfl.gb, Nat.le_trans hsw hfl.Fb, Nat.le_trans hsw hfl.gB⟩
theorem TbAt.below {W W1 : World} {base T : Nat} {kas : Kas} (h : TbAt W base T kas) (hb : Below W.heap.size W W1) : TbAt W1 base T kas := by
  obtain ⟨⟨R, bc, xs, iv, ps, F, g, h1, h2, h3, h4, h5, h6, h7, h8⟩, hT⟩ := h
  exact ⟨⟨R, bc, xs, iv, ps, F, g, (hb.block _ (blk_lt h1)).trans h1, own_below h2 hb, h3, fun x hx => ⟨own_below (h4 x hx).1 hb, (h4 x hx).2⟩, own_below h5 hb, h6, fun p hp => (h7 p hp).below hb, h8.below hb⟩, hT⟩
theorem tlen_c {w : World} {base T : Nat} {kas : Kas} (h : TbAt w base T kas) : Calls Try.prog 12 #[.pointer (some ⟨T, 0, none⟩)] w fun e w' => e = .returned (.int .i64 (kas.length : Nat)) ∧ Below w.heap.size w w' := by
  obtain ⟨⟨R, bc, xs, iv, ps, F, g, h1, h2, h3, h4, h5, h6, h7, h8⟩, hT⟩ := h
  have x3 : w.cell? ⟨T, 3, none⟩ = some (.int .i64 (kas.length : Nat)) := (blk_cell h1 3).trans rfl
  clear h1 h2 h3 h4 h5 h6 h7 h8
  go_enter Try.func12, Try.ntmps12
  go_wp2
  go_ret
  exact ⟨rfl, Below.refl _ _⟩
theorem flt_len (kas : Kas) : (fltF kas).length = dgF kas.length := by simp [fltF, bloF_len]
theorem tmay_c {w : World} {base T c : Nat} {A : Option Addr} {k : List Int} {kas : Kas} (h : TbAt w base T kas) (hk : RdB w A k) (hkl : k.length ≤ 1000000) (hb : Byt k) : Calls Try.prog 16 #[.pointer (some ⟨T, 0, none⟩), .slice A k.length c] w fun e w' => e = .returned (.bool (mayF (fltF kas) k 6)) ∧ Below w.heap.size w w' := by
  obtain ⟨⟨R, bc, xs, iv, ps, F, g, h1, h2, h3, h4, h5, h6, h7, h8⟩, hT⟩ := h
  have x2 : w.cell? ⟨T, 2, none⟩ = some (.pointer (some ⟨F, 0, none⟩)) := (blk_cell h1 2).trans rfl
  have hd : 1 ≤ dgF kas.length ∧ dgF kas.length ≤ 8192 := by unfold dgF; omega
  have hm := bmay_c (c := c) h8 hk hkl hb (by rw [flt_len]; exact hd.1) (by rw [flt_len]; exact hd.2) (by omega) (by omega)
  unfold ptr at hm
  clear h1 h2 h3 h4 h5 h6 h7 h8 hd
  go_enter Try.func16, Try.ntmps16
  go_wp2_with (first | (go_at_call 40; refine hm.mono ?_; rintro e w2 ⟨rfl, hb2⟩) | fail)
  go_ret
  exact ⟨rfl, hb2⟩
theorem seek1_c {w : World} {A B D : Option Addr} {c d n e' : Nat} {k l : List Int} (hk : RdB w A k) (hl : RdB w B l) : Calls Try.prog 43 #[.agg #[.slice A k.length c, .slice D n d], .slice B l.length e'] w fun e w' => e = .returned (.int .i64 (cmpB k l)) ∧ Below w.heap.size w w' := by
  have hb1 := (Below.refl w.heap.size w).alloc (Nat.le_refl _) (.cells #[.slice A k.length c, .slice D n d] 75)
  have hc := compare_c (w := w.alloc (.cells #[.slice A k.length c, .slice D n d] 75)) (c := c) (d := e') (hk.below hb1) (hl.below hb1)
  go_enter Try.func43, Try.ntmps43
  go_wp2_with (first | (go_at_call 44; refine hc.mono ?_; rintro e w2 ⟨rfl, rfl⟩) | fail)
  go_ret
  exact ⟨rfl, hb1⟩
theorem prow_own {W : World} {base n c : Nat} {R : Option Addr} {ps : List Pr} (h : W.ownsRow base 75 2 (.slice R n c) ps.length (ps.flatMap Pr.cells)) (hp : ∀ p ∈ ps, POwn base W p) : PRow W R ps := by
  refine ⟨fun j hj => ?_, fun p hp' => (hp p hp').rd⟩
  obtain ⟨A, c', e, hrow⟩ := row_slice h
  cases e
  have hl := h.1
  obtain ⟨g, rfl, _⟩ := hrow (j * 2) (by omega)
  exact ⟨g, rfl, prow_cells h j hj⟩
theorem lts_trans : ∀ (x y z : List Int), lts x y = true → lts y z = true → lts x z = true
  | [], _, [], _, h => by cases ‹List Int› <;> simp [lts] at h
  | [], _, _ :: _, _, _ => by simp [lts]
  | _ :: _, [], _, h, _ => by simp [lts] at h
  | _ :: _, _ :: _, [], _, h => by simp [lts] at h
  | a :: x, b :: y, c :: z, h, h' => by
    simp [lts] at h h' ⊢
    rcases h with h | ⟨rfl, h⟩ <;> rcases h' with h' | ⟨rfl, h'⟩
    · left; omega
    · left; omega
    · left; omega
    · exact Or.inr ⟨rfl, lts_trans x y z h h'⟩
set_option maxRecDepth 100000 in
set_option maxHeartbeats 2000000 in
theorem bsearch_c {w : World} {base c lc : Nat} {R A : Option Addr} {k : List Int} {ps : List Pr} (ho : w.ownsRow base 75 2 (.slice R ps.length c) ps.length (ps.flatMap Pr.cells)) (hp : ∀ p ∈ ps, POwn base w p) (hs : Srt (ps.map Pr.k)) (hn : ps.length ≤ 4096) (hk : RdB w A k) (hb : Byt k) :
    Calls Try.prog 42 #[.slice R ps.length c, .slice A k.length lc, .func (.func 43) #[] #[]] w fun e w' => ∃ (i : Nat) (b : Bool), e = .returned (.tuple #[.int .i64 i, .bool b]) ∧ i ≤ ps.length ∧ (∀ j (h : j < ps.length), j < i → lts ps[j].k k = true) ∧ (∀ j (h : j < ps.length), i ≤ j → lts ps[j].k k = false) ∧ Below w.heap.size w w' := by
  have HO := Aside0.mk ho
  have HP := Aside0.mk hp
  have HS := Aside0.mk hs
  have HK := Aside0.mk hk
  have HB := Aside0.mk hb
  have hmon : ∀ i j (hi : i < ps.length) (hj : j < ps.length), i ≤ j → lts ps[j].k k = true → lts ps[i].k k = true := fun i j hi hj hij h => by
    rcases Nat.lt_or_eq_of_le hij with h1 | rfl
    · have h2 := (List.pairwise_iff_getElem.1 hs.2) i j (by simpa using hi) (by simpa using hj) h1
      simp only [List.getElem_map] at h2
      exact lts_trans _ _ _ h2 h
    · exact h
  have HM := Aside0.mk hmon
  clear ho hp hs hk hb hmon
  go_enter Try.func42, Try.ntmps42
  go_wp2_with fail
  go_loopw [9, 10] (fun iv jv wr => ∃ i j : Nat, i ≤ j ∧ j ≤ ps.length ∧ iv = .int .i64 i ∧ jv = .int .i64 j ∧ Aside0 (∀ q (h : q < ps.length), q < i → lts ps[q].k k = true) ∧ Aside0 (∀ q (h : q < ps.length), j ≤ q → lts ps[q].k k = false) ∧ Below w.heap.size w wr) (fun iv jv _ => (intOf jv).toNat - (intOf iv).toNat)
  case atStart => exact ⟨0, ps.length, by omega, by omega, rfl, rfl, ⟨fun q _ h => by omega⟩, ⟨fun q h h' => by omega⟩, Below.refl _ _⟩
  case round =>
    obtain ⟨i, j, hij, hj, rfl, rfl, HA, HZ, hB⟩ := hrel
    by_cases hlt : i < j
    · have t1 : decide (i < j) = true := decide_eq_true hlt
      obtain ⟨m, hm⟩ : ∃ m, m = (i + j) / 2 := ⟨_, rfl⟩
      have hmi : i ≤ m ∧ m < j := by omega
      have hmm : ((i : Int) + (j : Int)) / 2 = (m : Int) := by omega
      have hml : m < ps.length := by omega
      obtain ⟨b, rfl, x0, x1⟩ := ((prow_own HO.out HP.out).below hB).at_ m hml
      have hkb : Byt ps[m].k := HS.out.1 _ (List.mem_map.2 ⟨_, List.getElem_mem hml, rfl⟩)
      have hc := seek1_c (w := wr) (c := ps[m].c) (D := some ps[m].B) (n := ps[m].v.length) (d := ps[m].d) (e' := lc) (((HP.out _ (List.getElem_mem hml)).rd.k).below hB) (HK.out.below hB)
      have HM2 := Aside0.mk (cmpB_lts hkb HB.out)
      have HMM := Aside0.mk hm
      clear hm hkb
      by_cases hl : lts ps[m].k k = true
      · have t2 : decide (cmpB ps[m].k k < 0) = true := decide_eq_true (HM2.out.2 hl)
        go_wp2_with (first | (refine hc.mono ?_; rintro e w2 ⟨rfl, hb2⟩) | fail)
        go_roundw
        case rel => exact ⟨m + 1, j, by omega, hj, by go_num, rfl, ⟨fun q hq hqm => HM.out q m hq hml (by omega) hl⟩, HZ, hB.trans (hb2.mono hB.size)⟩
        case measure => simp [intOf]; omega
      · have t2 : decide (cmpB ps[m].k k < 0) = false := decide_eq_false (fun h => hl (HM2.out.1 h))
        go_wp2_with (first | (refine hc.mono ?_; rintro e w2 ⟨rfl, hb2⟩) | fail)
        go_roundw
        case rel => exact ⟨i, m, by omega, by omega, rfl, by go_num, HA, ⟨fun q hq hqm => by
          cases hz : lts ps[q].k k with
          | false => rfl
          | true => exact absurd (HM.out m q hml hq hqm hz) hl⟩, hB.trans (hb2.mono hB.size)⟩
        case measure => simp [intOf]; omega
    · obtain rfl : i = j := by omega
      have t1 : decide (i < i) = false := decide_eq_false hlt
      by_cases hil : i < ps.length
      · have t2 : decide (i < ps.length) = true := decide_eq_true hil
        obtain ⟨b, rfl, x0, x1⟩ := ((prow_own HO.out HP.out).below hB).at_ i hil
        have hc := seek1_c (w := wr) (c := ps[i].c) (D := some ps[i].B) (n := ps[i].v.length) (d := ps[i].d) (e' := lc) (((HP.out _ (List.getElem_mem hil)).rd.k).below hB) (HK.out.below hB)
        go_wp2_with (first | (refine hc.mono ?_; rintro e w2 ⟨rfl, hb2⟩) | fail)
        refine bodyPost_ret (results_tmp2 rfl _ _ _) rfl ?_
        exact ⟨i, _, rfl, hj, HA.out, HZ.out, hB.trans (hb2.mono hB.size)⟩
      · have t2 : decide (i < ps.length) = false := decide_eq_false hil
        go_wp2_with fail
        refine bodyPost_ret (results_tmp2 rfl _ _ _) rfl ?_
        exact ⟨i, _, rfl, hj, HA.out, HZ.out, hB⟩
/-- The first m entries that are not below k. -/
def seekF (kas : Kas) (k : List Int) (m : Nat) : Kas := (kas.filter fun x => !lts x.1 k).take m
theorem seekF_full {l : Kas} {k : List Int} {m : Nat} (r : Kas) (h : m ≤ (seekF l k m).length) : seekF (l ++ r) k m = seekF l k m := by
  unfold seekF at h ⊢
  rw [List.length_take] at h
  rw [List.filter_append, List.take_append_of_le_length (by omega)]
theorem seekF_in {l : Kas} {k : List Int} {m : Nat} {x : List Int × Ag} (hx : lts x.1 k = false) (h : (seekF l k m).length < m) : seekF (l ++ [x]) k m = seekF l k m ++ [x] := by
  unfold seekF at h ⊢
  rw [List.length_take] at h
  have e : [x].filter (fun x => !lts x.1 k) = [x] := by simp [hx]
  rw [List.filter_append, e, List.take_of_length_le (by simp; omega), List.take_of_length_le (by omega)]
theorem seekF_out {l : Kas} {k : List Int} {m : Nat} {x : List Int × Ag} (hx : lts x.1 k = true) : seekF (l ++ [x]) k m = seekF l k m := by
  unfold seekF
  have e : [x].filter (fun x => !lts x.1 k) = [] := by simp [hx]
  rw [List.filter_append, e, List.append_nil]
theorem seekF_low {l : Kas} {k : List Int} {m : Nat} (h : ∀ x ∈ l, lts x.1 k = true) : seekF l k m = [] := by
  unfold seekF
  rw [List.filter_eq_nil_iff.2 (fun x hx => by simp [h x hx]), List.take_nil]
theorem seekF_le (l : Kas) (k : List Int) (m : Nat) : (seekF l k m).length ≤ l.length := by
  unfold seekF
  rw [List.length_take]
  have := List.length_filter_le (fun x : List Int × Ag => !lts x.1 k) l
  omega
/-- All that stands in the parts ahead of the found one is below. -/
theorem parts_low {kas : Kas} {k : List Int} {i : Nat} (hok : EOk kas) (hi : i ≤ nprt kas.length) (h : ∀ j, j < i → lts (keyF kas j) k = true) : ∀ x ∈ kas.take (16 * i), lts x.1 k = true := by
  intro x hx
  obtain ⟨q, hq, rfl⟩ := List.mem_iff_getElem.1 hx
  rw [List.length_take] at hq
  rw [List.getElem_take]
  have h1 := h (q / 16) (by omega)
  obtain ⟨hlt, e⟩ := key_at (kas := kas) (j := q / 16) (by omega)
  rw [e] at h1
  by_cases hqe : q = min (16 * (q / 16) + 15) (kas.length - 1)
  · simp only [← hqe] at h1
    exact h1
  · have h2 := (List.pairwise_iff_getElem.1 hok.s) q (min (16 * (q / 16) + 15) (kas.length - 1)) (by simp; omega) (by simp; omega) (by omega)
    simp only [List.getElem_map] at h2
    exact lts_trans _ _ _ h2 h1
theorem tseek_none {w : World} {T c n : Nat} {A : Option Addr} {m : Int} (hm : m < 1) : Calls Try.prog 19 #[.pointer (some ⟨T, 0, none⟩), .slice A n c, .int .i64 m] w fun e w' => e = .returned (.slice none 0 0) ∧ Below w.heap.size w w' := by
  have t1 : decide (m < 1) = true := decide_eq_true hm
  go_enter Try.func19, Try.ntmps19
  go_wp2
  go_ret
  exact ⟨rfl, Below.refl _ _⟩
set_option maxRecDepth 100000 in
set_option maxHeartbeats 4000000 in
theorem tseek_c {w : World} {base T c m : Nat} {A : Option Addr} {k : List Int} {kas : Kas} (h : TbAt w base T kas) (hok : EOk kas) (hn : kas.length ≤ 80) (hk : RdB w A k) (hb : Byt k) (hm1 : 1 ≤ m) :
    Calls Try.prog 19 #[.pointer (some ⟨T, 0, none⟩), .slice A k.length c, .int .i64 m] w fun e w' => ∃ (v : Value) (xs : List Ent), e = .returned v ∧ w'.ownsRow w.heap.size 36 7 v xs.length (xs.flatMap Ent.cells) ∧ xs.map Ent.ka = seekF kas k m ∧ (∀ x ∈ xs, EOwn w.heap.size w' x) ∧ Below w.heap.size w w' := by
  have HT := Aside0.mk h
  obtain ⟨⟨R, bc, fs, iv, ps, F, g, h1, h2, h3, h4, h5, h6, h7, h8⟩, hTb⟩ := h
  obtain ⟨IR, ic, rfl, hq⟩ := row_slice h5
  clear hq
  have hnp : nprt kas.length ≤ 5 := by unfold nprt; omega
  have hpl : ps.length = nprt kas.length := by have := congrArg List.length h6; simpa [idxF] using this
  have hpk : ∀ j (hj : j < ps.length), ps[j].k = keyF kas j := fun j hj => by
    have e1 : (ps.map Pr.kv)[j]? = (idxF kas (nprt kas.length))[j]? := by rw [h6]
    rw [List.getElem?_map, List.getElem?_eq_getElem hj, idxF, List.getElem?_map, List.getElem?_range (by omega)] at e1
    simp only [Option.map_some, Option.some.injEq, Pr.kv, Prod.mk.injEq] at e1
    exact e1.1
  have hidx := idx_ok hok (n := nprt kas.length) (fun i hi => by unfold nprt at hi; omega)
  have hsr : Srt (ps.map Pr.k) := by
    refine ⟨fun z hz => ?_, ?_⟩
    · obtain ⟨p, hp, rfl⟩ := List.mem_map.1 hz
      exact (hidx.k (p.k, p.v) (by rw [← h6]; exact List.mem_map.2 ⟨p, hp, rfl⟩)).1
    · rw [List.pairwise_iff_getElem]
      intro i j hi hj hij
      simp only [List.length_map] at hi hj
      rw [List.getElem_map, List.getElem_map, hpk i hi, hpk j hj]
      exact key_lt hok hij (by unfold nprt at hpl; omega)
  have hbs := bsearch_c (c := ic) (lc := c) h5 h7 hsr (by omega) hk hb
  have x1 : w.cell? ⟨T, 1, none⟩ = some (.slice IR ps.length ic) := (blk_cell h1 1).trans rfl
  have t1 : decide ((m : Int) < 1) = false := decide_eq_false (by omega)
  have t2 : decide (m < 1) = false := decide_eq_false (by omega)
  have HPK := Aside0.mk hpk
  have HBS := Aside0.mk hbs
  have HPL := Aside0.mk hpl
  have HOK := Aside0.mk hok
  have HK := Aside0.mk hk
  have HB := Aside0.mk hb
  clear h1 h2 h3 h4 h5 h6 h7 h8 hTb hpl hpk hidx hsr hbs hok hk hb
  go_enter Try.func19, Try.ntmps19
  go_wp2_with (first
    | (go_at_call 42
       refine HBS.out.mono ?_
       rintro e w2 ⟨i0, b0, rfl, hi0, hl0, hg0, hb2⟩)
    | fail)
  clear HBS x1 t1 t2
  have hi0' : i0 ≤ nprt kas.length := by rw [← HPL.out]; exact hi0
  have HLOW := Aside0.mk (parts_low HOK.out hi0' (k := k) (fun j hj => by have := hl0 j (by omega) hj; rwa [HPK.out] at this))
  clear hi0 hl0 hg0
  go_loopw [7, 9] (fun av ov wr => ∃ (j : Nat) (xs : List Ent), j ≤ nprt kas.length ∧ av = .int .i64 j ∧ Aside0 (wr.ownsRow w.heap.size 36 7 ov xs.length (xs.flatMap Ent.cells)) ∧ Aside0 (xs.map Ent.ka = seekF (kas.take (16 * j)) k m) ∧ Aside0 (∀ x ∈ xs, EOwn w.heap.size wr x) ∧ Below w.heap.size w wr) (fun av _ _ => nprt kas.length - (intOf av).toNat)
  case atStart => exact ⟨i0, [], hi0', rfl, ⟨World.ownsRow_nil _ _ _ _⟩, ⟨by rw [seekF_low HLOW.out]; rfl⟩, ⟨fun x hx => by cases hx⟩, hb2⟩
  case round =>
    obtain ⟨j, xs, hj, rfl, HX, HKA, HE, hB⟩ := hrel
    obtain ⟨OR, oc, rfl, hq⟩ := row_slice HX.out
    clear hq
    have hT := HT.out.below hB
    obtain ⟨⟨R, bc, fs, iv, ps', F, g, h1, h2, h3, h4, h5, h6, h7, h8⟩, hTb⟩ := hT
    have x0 : wr.cell? ⟨T, 0, none⟩ = some (.slice R (nprt kas.length) bc) := (blk_cell h1 0).trans rfl
    have H2 := Aside0.mk h2
    have H3 := Aside0.mk h3
    have H4 := Aside0.mk h4
    clear h1 h2 h3 h4 h5 h6 h7 h8 hTb
    have hxl : xs.length ≤ 80 := by
      have := congrArg List.length HKA.out
      have h' := seekF_le (kas.take (16 * j)) k m
      simp at this h'
      omega
    by_cases hlt : j < nprt kas.length ∧ xs.length < m
    · obtain ⟨hlt, hxm⟩ := hlt
      have t1 : decide (j < nprt kas.length) = true := decide_eq_true hlt
      have t2 : decide (xs.length < m) = true := decide_eq_true hxm
      obtain ⟨R', bc', e, hrow⟩ := row_slice H2.out
      cases e
      have hfl : fs.length = nprt kas.length + 4 - 1 := by have := congrArg List.length H3.out; simpa [framesF, blksF] using this
      have hjf : j < fs.length := by omega
      obtain ⟨fb, rfl, hq1, hq2⟩ := hrow j (by simpa using hjf)
      clear hq1 hq2
      have y0 := frow_cell H2.out j hjf
      have hfo := H4.out _ (List.getElem_mem hjf)
      have hfk : fs[j].k = rowB 0 [] (kvsF (prtF kas j)) := by
        have e1 : (fs.map FEnt.k)[j]? = (framesF kas)[j]? := by rw [H3.out]
        rw [List.getElem?_map, List.getElem?_eq_getElem hjf, framesF, List.getElem?_append_left (by simpa [blksF] using hlt), blksF, List.getElem?_map, List.getElem?_range hlt] at e1
        simpa [blkF] using e1
      generalize fs[j] = f at *
      obtain ⟨fe, fA, fc, fk⟩ := f
      simp only at y0 hfk
      subst hfk
      obtain ⟨hfo1, hfo2⟩ := hfo
      simp only at hfo1 hfo2
      have hpn : (prtF kas j).length = min 16 (kas.length - 16 * j) := prt_len kas j
      have hpos : 1 ≤ (rowB 0 [] (kvsF (prtF kas j))).length := rowB_pos (by rw [kvsF, List.length_map, hpn]; unfold nprt at hlt; omega)
      obtain ⟨fa, fc', e, hfr, _⟩ := own_b hfo1 hpos
      cases e
      have hE := entries_c (c := fc) hfr (own_typed hfo1 fa.block rfl) hfo2 (HOK.out.prt j) (by have := blk_le HOK.out j; unfold blkF at this; omega)
      generalize (rowB 0 [] (kvsF (prtF kas j))).length = LB at y0 hE
      have HEE := Aside0.mk hE
      have HPN := Aside0.mk hpn
      clear hrow hfl hjf hfo1 hfo2 hpn hpos hfr hE
      go_wp2_with (first
        | (go_at_call 37
           refine HEE.out.mono ?_
           rintro e w3 ⟨pv, part, rfl, hp3, hka3, hpo3, hb3⟩
           obtain ⟨PR, pc, rfl, hprow⟩ := row_slice hp3)
        | fail)
      have hpl : part.length = min 16 (kas.length - 16 * j) := by rw [← HPN.out, ← hka3, List.length_map]
      have hpl1 : 1 ≤ part.length := by unfold nprt at hlt; omega
      obtain ⟨pb, rfl, hq1, hq2⟩ := hprow 0 (by rw [hp3.1]; omega)
      have hne : (Value.slice OR xs.length oc).ownBlock ≠ some pb := fun e => by
        have h1 := (HX.out.lt pb e).2
        have h2 := (hp3.lt pb rfl).1
        omega
      have HP3 := Aside0.mk hp3
      have HKA3 := Aside0.mk hka3
      have HPO3 := Aside0.mk hpo3
      have HNE3 := Aside0.mk hne
      have HPL3 := Aside0.mk hpl
      have hp16 : part.length ≤ 16 := by omega
      clear hq1 hq2 hprow hp3 hka3 hpo3 hne hpl t1 t2 x0 y0 hpl1
      go_loopw [9, 60] (fun ov iv W => ∃ (q : Nat) (ys : List Ent), q ≤ part.length ∧ iv = .int .i64 q ∧ Aside0 (W.ownsRow w.heap.size 36 7 ov ys.length (ys.flatMap Ent.cells)) ∧ Aside0 (ys.map Ent.ka = seekF (kas.take (16 * j) ++ (prtF kas j).take q) k m) ∧ Aside0 (∀ x ∈ ys, EOwn w.heap.size W x) ∧ Aside0 (ov.ownBlock ≠ some pb) ∧ Aside0 (W.ownsRow wr.heap.size 36 7 (.slice (some ⟨pb, 0, none⟩) part.length pc) part.length (part.flatMap Ent.cells)) ∧ Aside0 (∀ x ∈ part, EOwn wr.heap.size W x) ∧ Below w.heap.size w W) (fun _ iv _ => part.length - (intOf iv).toNat)
      case atStart => exact ⟨0, xs, by omega, rfl, ⟨own_below HX.out hb3⟩, ⟨by simpa using HKA.out⟩, ⟨fun x hx => (HE.out x hx).below hb3⟩, HNE3, HP3, HPO3, hB.trans (hb3.mono hB.size)⟩
      case round =>
        obtain ⟨q, ys, hq, rfl, HY, HYA, HYE, HNE, HPW, HPE, hBW⟩ := hrel
        rename World => W
        by_cases hlt2 : q < part.length
        · have t3 : decide (q < part.length) = true := decide_eq_true hlt2
          obtain ⟨OR', oc', rfl, hq'⟩ := row_slice HY.out
          clear hq'
          have hyl : ys.length ≤ 96 := by
            have h1 := congrArg List.length HYA.out
            have h2 := seekF_le (kas.take (16 * j) ++ (prtF kas j).take q) k m
            simp only [List.length_map, List.length_append, List.length_take] at h1 h2
            omega
          have hEr := erow_own HPW.out HPE.out
          obtain ⟨x0, x1, x2, x3, x4, x5, x6⟩ := hEr.cells hlt2
          simp only [Nat.zero_add] at x0 x1 x2 x3 x4 x5 x6
          have hrd := hEr.rd _ (List.getElem_mem hlt2)
          have hmem : part[q].ka ∈ prtF kas j := by rw [← HKA3.out]; exact List.mem_map.2 ⟨_, List.getElem_mem hlt2, rfl⟩
          have hkb := ((HOK.out.prt j).k _ hmem).1
          have htk : kas.take (16 * j) ++ (prtF kas j).take (q + 1) = (kas.take (16 * j) ++ (prtF kas j).take q) ++ [part[q].ka] := by
            rw [← HKA3.out, List.take_add_one, List.getElem?_eq_getElem (by simpa using hlt2), List.getElem_map, List.append_assoc]
            rfl
          have hxo := HPE.out _ (List.getElem_mem hlt2)
          generalize part[q] = x at *
          obtain ⟨xA', xc, xk, ⟨ac, ao, ah, al, an, ax⟩⟩ := x
          obtain ⟨hrk, hrkc, xA, e⟩ := hrd
          simp only at e
          subst e
          simp only [Ent.ka] at x0 x1 x2 x3 x4 x5 x6 hkb htk hrk
          have hbx := al_new (W := W) (o := (.cells #[.slice (some xA) xk.length xc, .int .u64 ac, .bool ao, .int .i64 ah, .int .u64 al, .int .i64 an, .int .i64 ax] 36)) (k := W.heap.size) rfl
          have hb4 := (Below.refl W.heap.size W).alloc (Nat.le_refl _) (.cells #[.slice (some xA) xk.length xc, .int .u64 ac, .bool ao, .int .i64 ah, .int .u64 al, .int .i64 an, .int .i64 ax] 36)
          have HCM := Aside0.mk (compare_c (w := W.alloc (.cells #[.slice (some xA) xk.length xc, .int .u64 ac, .bool ao, .int .i64 ah, .int .u64 al, .int .i64 an, .int .i64 ax] 36)) (c := xc) (d := c) (hrk.below hb4) ((HK.out.below hBW).below hb4))
          have z0 : (W.alloc (.cells #[.slice (some xA) xk.length xc, .int .u64 ac, .bool ao, .int .i64 ah, .int .u64 al, .int .i64 an, .int .i64 ax] 36)).cell? ⟨W.heap.size, 0, none⟩ = some (.slice (some xA) xk.length xc) := (blk_cell hbx 0).trans rfl
          have z1 : (W.alloc (.cells #[.slice (some xA) xk.length xc, .int .u64 ac, .bool ao, .int .i64 ah, .int .u64 al, .int .i64 an, .int .i64 ax] 36)).cell? ⟨W.heap.size, 1, none⟩ = some (.int .u64 ac) := (blk_cell hbx 1).trans rfl
          have z2 : (W.alloc (.cells #[.slice (some xA) xk.length xc, .int .u64 ac, .bool ao, .int .i64 ah, .int .u64 al, .int .i64 an, .int .i64 ax] 36)).cell? ⟨W.heap.size, 2, none⟩ = some (.bool ao) := (blk_cell hbx 2).trans rfl
          have z3 : (W.alloc (.cells #[.slice (some xA) xk.length xc, .int .u64 ac, .bool ao, .int .i64 ah, .int .u64 al, .int .i64 an, .int .i64 ax] 36)).cell? ⟨W.heap.size, 3, none⟩ = some (.int .i64 ah) := (blk_cell hbx 3).trans rfl
          have z4 : (W.alloc (.cells #[.slice (some xA) xk.length xc, .int .u64 ac, .bool ao, .int .i64 ah, .int .u64 al, .int .i64 an, .int .i64 ax] 36)).cell? ⟨W.heap.size, 4, none⟩ = some (.int .u64 al) := (blk_cell hbx 4).trans rfl
          have z5 : (W.alloc (.cells #[.slice (some xA) xk.length xc, .int .u64 ac, .bool ao, .int .i64 ah, .int .u64 al, .int .i64 an, .int .i64 ax] 36)).cell? ⟨W.heap.size, 5, none⟩ = some (.int .i64 an) := (blk_cell hbx 5).trans rfl
          have z6 : (W.alloc (.cells #[.slice (some xA) xk.length xc, .int .u64 ac, .bool ao, .int .i64 ah, .int .u64 al, .int .i64 an, .int .i64 ax] 36)).cell? ⟨W.heap.size, 6, none⟩ = some (.int .i64 ax) := (blk_cell hbx 6).trans rfl
          have HY6 := Aside0.mk (own_below HY.out hb4)
          have HTK := Aside0.mk htk
          have HXO := Aside0.mk hxo
          have HCL := Aside0.mk (cmpB_lts hkb HB.out)
          clear hEr hmem hkb htk hxo hrk hrkc hbx
          by_cases hl : lts xk k = true
          · have t4 : decide (0 ≤ cmpB xk k) = false := decide_eq_false (by have := HCL.out.2 hl; omega)
            go_wp2_with (first | (go_at_call 44; refine HCM.out.mono ?_; rintro e _ ⟨rfl, rfl⟩) | fail)
            go_roundw
            case rel =>
              exact ⟨q + 1, ys, by omega, by go_num, HY6, ⟨by rw [HTK.out, seekF_out hl]; exact HYA.out⟩, ⟨fun x hx => (HYE.out x hx).below hb4⟩, HNE, ⟨own_below HPW.out hb4⟩, ⟨fun x hx => (HPE.out x hx).below hb4⟩, hBW.trans (hb4.mono hBW.size)⟩
            case measure => simp [intOf]; omega
          · have t4 : decide (0 ≤ cmpB xk k) = true := decide_eq_true (by have h : ¬ cmpB xk k < 0 := fun h => hl (HCL.out.1 h); omega)
            have hl' : lts xk k = false := by simpa using hl
            by_cases hym : ys.length < m
            · have t5 : decide (ys.length < m) = true := decide_eq_true hym
              obtain ⟨z0', hi, hzz⟩ := Option.map_eq_some_iff.1 info7
              simp only [Prod.mk.injEq] at hzz
              obtain ⟨hz0, hz1, hz2⟩ := hzz
              go_wp2_with (first
                | (go_at_call 44; refine HCM.out.mono ?_; rintro e _ ⟨rfl, rfl⟩)
                | (at_builtin
                   refine wpList_append_own_at _ rfl _ _ 22 rfl w.heap.size 36 z0' _ 7 72 Try.underlying22 hi hz0 hz1 hz2 rfl (by decide) _ _ _ rfl (HY6.out.alloc _) ⟨(W.alloc (.cells #[.slice (some xA) xk.length xc, .int .u64 ac, .bool ao, .int .i64 ah, .int .u64 al, .int .i64 an, .int .i64 ax] 36)).heap.size, 0, none⟩ 1 1 (Ent.cells ⟨some xA, xc, xk, ⟨ac, ao, ah, al, an, ax⟩⟩) (by simp [World.size_alloc]; rfl) rfl (cells_new (W.alloc (.cells #[.slice (some xA) xk.length xc, .int .u64 ac, .bool ao, .int .i64 ah, .int .u64 al, .int .i64 an, .int .i64 ax] 36)) ⟨some xA, xc, xk, ⟨ac, ao, ah, al, an, ax⟩⟩) (cells_one _) (by simp only [maxLen]; omega) (by omega) (by have := hBW.size; simp only [World.size_alloc] at *; omega) ?_
                   intro v7 w7 hown7 hg7 hnil7 hat7)
                | fail)
              have hB5 := hb4.alloc hb4.size (.cells #[.slice (some xA) xk.length xc, .int .u64 ac, .bool ao, .int .i64 ah, .int .u64 al, .int .i64 an, .int .i64 ax] 36)
              have hkn : Kne W w7 := (Kne.of_below hB5).trans (Kne.grow (HY6.out.alloc _) hg7)
              have hpbW := (HPW.out.lt pb rfl).2
              go_roundw
              case rel =>
                refine ⟨q + 1, ys ++ [⟨some xA, xc, xk, ⟨ac, ao, ah, al, an, ax⟩⟩], by omega, by go_num, ⟨?_⟩, ⟨?_⟩, ⟨fun x hx => ?_⟩, ⟨?_⟩, ⟨?_⟩, ⟨fun x hx => (HPE.out x hx).kne hkn⟩, ?_⟩
                · rw [List.length_append, List.flatMap_append]
                  simpa using hown7
                · rw [HTK.out, seekF_in hl' (by rw [← HYA.out]; simpa using hym), List.map_append, HYA.out]
                  rfl
                · rcases List.mem_append.1 hx with hx | hx
                  · exact (HYE.out x hx).kne hkn
                  · obtain rfl := List.mem_singleton.1 hx
                    exact EOwn.kne ⟨own_low HXO.out.1 hB.size, HXO.out.2⟩ hkn
                · rcases hat7 with h | h
                  · rw [h]; exact HNE.out
                  · rw [h]
                    intro e
                    simp only [World.size_alloc, Option.some.injEq] at e
                    omega
                · refine own_move HPW.out fun k' hk' => ?_
                  obtain rfl : pb = k' := by simpa [Value.ownBlock] using hk'
                  exact (hg7.block pb (by simp only [World.size_alloc]; omega) (fun e => HNE.out e.symm)).trans (hB5.block _ hpbW)
                · exact (hBW.trans (hB5.mono hBW.size)).grown hg7 (by have := hBW.size; simp [World.size_alloc] at this ⊢; omega) (fun k hk => (HY6.out.lt k hk).1)
              case measure => simp [intOf]; omega
            · have t5 : decide (ys.length < m) = false := decide_eq_false hym
              go_wp2_with (first | (go_at_call 44; refine HCM.out.mono ?_; rintro e _ ⟨rfl, rfl⟩) | fail)
              go_roundw
              case rel =>
                exact ⟨q + 1, ys, by omega, by go_num, HY6, ⟨by rw [HTK.out, seekF_full _ (by rw [← HYA.out]; simp; omega)]; exact HYA.out⟩, ⟨fun x hx => (HYE.out x hx).below hb4⟩, HNE, ⟨own_below HPW.out hb4⟩, ⟨fun x hx => (HPE.out x hx).below hb4⟩, hBW.trans (hb4.mono hBW.size)⟩
              case measure => simp [intOf]; omega
        · obtain rfl : q = part.length := by omega
          have t3 : decide (part.length < part.length) = false := decide_eq_false hlt2
          have hend : ys.map Ent.ka = seekF (kas.take (16 * (j + 1))) k m := by
            have e : (prtF kas j).take part.length = prtF kas j := List.take_of_length_le (by rw [← HKA3.out, List.length_map]; exact Nat.le_refl _)
            rw [HYA.out, prt_take, e]
          have HEND := Aside0.mk hend
          clear hend
          go_wp2_with fail
          go_roundw
          case rel => exact ⟨j + 1, ys, by omega, by go_num, HY, HEND, HYE, hBW⟩
          case measure => simp [intOf]; omega
    · by_cases hlt' : j < nprt kas.length
      · have hxm : ¬ xs.length < m := fun h => hlt ⟨hlt', h⟩
        have t1 : decide (j < nprt kas.length) = true := decide_eq_true hlt'
        have t2 : decide (xs.length < m) = false := decide_eq_false hxm
        have hfin : xs.map Ent.ka = seekF kas k m := by
          have e : kas = kas.take (16 * j) ++ kas.drop (16 * j) := (List.take_append_drop _ _).symm
          rw [e, seekF_full _ (by rw [← HKA.out]; simp; omega), ← HKA.out]
        have HFIN := Aside0.mk hfin
        clear hfin
        go_wp2_with fail
        go_ret
        exact ⟨_, xs, rfl, HX.out, HFIN.out, HE.out, hB⟩
      · have t1 : decide (j < nprt kas.length) = false := decide_eq_false hlt'
        have hfin : xs.map Ent.ka = seekF kas k m := by
          have e : kas.take (16 * j) = kas := List.take_of_length_le (by unfold nprt at hlt'; omega)
          rw [HKA.out, e]
        have HFIN := Aside0.mk hfin
        clear hfin
        go_wp2_with fail
        go_ret
        exact ⟨_, xs, rfl, HX.out, HFIN.out, HE.out, hB⟩
end Go.Proofs.Ythabkdbhjioalaa.Top
