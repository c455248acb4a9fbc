/-
  slices.Insert of one entry in a row of the caller's own; conditions: those that each theorem states.
-/
import Derived.Test.YtoikaegohkolkaaGI
import Derived.Lib.AppendZerosOnto
import Derived.Lib.Overlaps
import Derived.Laws.Externs
import Derived.Laws.CopyOwn
import Derived.Lib.AppendZeros
namespace Go.Proofs.Ytoikaegohkolkaa.Top
set_option linter.unusedSimpArgs false
set_option linter.unusedVariables false
open Go.RowKit Go.Proofs.YtoikaegohkolkaaW.PrintWords Go.Proofs.YtoikaegohkolkaaW.PrintLast Go.Proofs.YtoikaegohkolkaaW.PrintMore
theorem run_copy7 (w : World) (ty : TypeId) {g off dLen dCap : Nat} {ad : Addr} {sLen sCap : Nat} (cur : List Value) (hg : w.heap[g]? = some (.cells cur.toArray 56 (0, 0))) (cs : List Value) (hn : cs.length = Nat.min sLen dLen * 7) (hsrc : ∀ j v, cs[j]? = some v → w.cell? (ad.add j) = some v) (hfit : off + cs.length ≤ cur.length) (h1 : ∀ v ∈ cs, v.oneCell' = true) :
    (Builtin.copy_ #[31, 31] ty #[.slice (some ⟨g, off, none⟩) dLen dCap, .slice (some ad) sLen sCap]).run Try.prog w = .ok (goInt (Nat.min sLen dLen)) (w.setRow g (splice cur off cs).toArray) := by
  obtain ⟨i0, hi, hzz⟩ := Option.map_eq_some_iff.1 info7
  simp only [Prod.mk.injEq] at hzz
  obtain ⟨hz0, hz1, hz2⟩ := hzz
  have hf := run_firstCells_some (P := Try.prog) w 7 (Nat.min sLen dLen) ad sLen sCap cs hn hsrc
  have hst := run_storeCells_at Try.prog g off 56 cs 0 cur.toArray w hg (by simpa using hfit) h1
  simp only [Nat.add_zero] at hst
  simp [Builtin.copy_, run_underlying Try.underlying31, Builtin.lenOf, sizeOf, typeInfo, hi, hz1, hf, hst, splice]
theorem setRow_grown (w : World) (g : Nat) (cs : Array Value) : w.grownBy (w.setRow g cs) (some g) := ⟨rfl, rfl, rfl, by simp [World.setRow], fun k _ hk => setRow_other w g k cs (fun e => hk (by simp [e]))⟩
theorem step_copy7 {ops : Array Oper} {o : Oper} {a : Act} {w : World} {K : Act → World → Prop} {Q : Exit → Act → World → Prop} {E : Prop} (hgd : o.guard = none) (d s : Operand)
    (ho : o.op = .call { callee := .builtin .copy, args := #[d, s], argTypes := #[31, 31] }) (g off dLen dCap : Nat) (ad : Addr) (sLen sCap : Nat) (hd : a.eval d = .slice (some ⟨g, off, none⟩) dLen dCap) (hs : a.eval s = .slice (some ad) sLen sCap)
    (cur : List Value) (hg : w.heap[g]? = some (.cells cur.toArray 56 (0, 0))) (cs : List Value) (hn : cs.length = Nat.min sLen dLen * 7) (hsrc : ∀ j v, cs[j]? = some v → w.cell? (ad.add j) = some v) (hfit : off + cs.length ≤ cur.length) (h1 : ∀ v ∈ cs, v.oneCell' = true)
    (w0 : World) (hb : w0.grownBy w (some g)) (h : ∀ w', Hid (w'.heap[g]? = some (.cells (splice cur off cs).toArray 56 (0, 0))) → w0.grownBy w' (some g) → K (a.put o.dst (goInt (Nat.min sLen dLen))) w') :
    if Region.wanted o (yielded ops a.tmps) = true then Oper.wp Try.prog o a w K Q else E := by
  have hw : Region.wanted o (yielded ops a.tmps) = true := by simp [Region.wanted, hgd]
  rw [if_pos hw]
  have hrun := run_copy7 w o.type (dLen := dLen) (dCap := dCap) (sLen := sLen) (sCap := sCap) cur hg cs hn hsrc hfit h1
  unfold Oper.wp
  simp [execOp, ho, resolve, invoke, builtin, hd, hs, hrun, Result.andThen]
  exact h _ (show _ = _ from setRow_heap w g _ _ _ _ hg) (hb.trans (setRow_grown w g _))
theorem wpList_copy7 {ops : Array Oper} {rest : List Oper} {o : Oper} {a : Act} {w : World} {Q : Exit → Act → World → Prop} (hgd : o.guard = none) (d s : Operand)
    (ho : o.op = .call { callee := .builtin .copy, args := #[d, s], argTypes := #[31, 31] }) (g off dLen dCap : Nat) (ad : Addr) (sLen sCap : Nat) (hd : a.eval d = .slice (some ⟨g, off, none⟩) dLen dCap) (hs : a.eval s = .slice (some ad) sLen sCap)
    (cur : List Value) (hg : w.heap[g]? = some (.cells cur.toArray 56 (0, 0))) (cs : List Value) (hn : cs.length = Nat.min sLen dLen * 7) (hsrc : ∀ j v, cs[j]? = some v → w.cell? (ad.add j) = some v) (hfit : off + cs.length ≤ cur.length) (h1 : ∀ v ∈ cs, v.oneCell' = true)
    (w0 : World) (hb : w0.grownBy w (some g)) (h : ∀ w', Hid (w'.heap[g]? = some (.cells (splice cur off cs).toArray 56 (0, 0))) → w0.grownBy w' (some g) → wpList Try.prog ops Q rest (a.put o.dst (goInt (Nat.min sLen dLen))) w') :
    wpList Try.prog ops Q (o :: rest) a w := by
  refine wpList_plain hgd fun K hK => ?_
  have hrun := run_copy7 w o.type (dLen := dLen) (dCap := dCap) (sLen := sLen) (sCap := sCap) cur hg cs hn hsrc hfit h1
  unfold Oper.wp
  simp [execOp, ho, resolve, invoke, builtin, hd, hs, hrun, Result.andThen]
  exact hK _ _ (h _ (show _ = _ from setRow_heap w g _ _ _ _ hg) (hb.trans (setRow_grown w g _)))
theorem splice_shift {cur xs y : List Value} {n i : Nat} (hi : i ≤ n) (hx : cur.take (n * 7) = xs) (hl : (n + 1) * 7 ≤ cur.length) (hy : y.length = 7) :
    (splice (splice cur ((i + 1) * 7) (xs.drop (i * 7))) (i * 7) y).take ((n + 1) * 7) = xs.take (i * 7) ++ y ++ xs.drop (i * 7) := by
  have hxl : xs.length = n * 7 := by rw [← hx, List.length_take]; omega
  have ht : cur.take (i * 7) = xs.take (i * 7) := by rw [← hx, List.take_take, Nat.min_eq_left (by omega)]
  have h1 : (splice cur ((i + 1) * 7) (xs.drop (i * 7))).take (i * 7) = xs.take (i * 7) := by
    unfold splice
    rw [List.take_append_of_le_length (by rw [List.length_take]; omega), List.take_take, Nat.min_eq_left (by omega), ht]
  have h2 : (splice cur ((i + 1) * 7) (xs.drop (i * 7))).drop (i * 7 + y.length) = xs.drop (i * 7) ++ cur.drop ((i + 1) * 7 + (xs.drop (i * 7)).length) := by
    unfold splice
    exact List.drop_left' (by rw [List.length_take]; omega)
  rw [show splice (splice cur ((i + 1) * 7) (xs.drop (i * 7))) (i * 7) y = xs.take (i * 7) ++ (y ++ (xs.drop (i * 7) ++ cur.drop ((i + 1) * 7 + (xs.drop (i * 7)).length))) by rw [← h2, ← h1]; rfl, ← List.append_assoc, ← List.append_assoc]
  exact List.take_left' (by simp; omega)
theorem splice_new {xs y z : List Value} {n i : Nat} (hi : i ≤ n) (hxl : xs.length = n * 7) (hz : (n + 1 - i) * 7 ≤ z.length) (hy : y.length = 7) :
    (splice (splice (xs.take (i * 7) ++ z) (i * 7) y) ((i + 1) * 7) (xs.drop (i * 7))).take ((n + 1) * 7) = xs.take (i * 7) ++ y ++ xs.drop (i * 7) := by
  have hl : (xs.take (i * 7)).length = i * 7 := by rw [List.length_take]; omega
  have h1 : (xs.take (i * 7) ++ z).take (i * 7) = xs.take (i * 7) := List.take_left' hl
  have h2 : (splice (xs.take (i * 7) ++ z) (i * 7) y).take ((i + 1) * 7) = xs.take (i * 7) ++ y := by
    unfold splice
    rw [h1, ← List.append_assoc]
    exact List.take_left' (by rw [List.length_append, hl, hy]; omega)
  generalize splice (xs.take (i * 7) ++ z) (i * 7) y = L at *
  unfold splice
  rw [h2, ← List.append_assoc]
  exact List.take_left' (by simp; omega)
theorem size7 : ∀ w, (Go.sizeOf 56).run Try.prog w = .ok 7 w := fun w => by
  obtain ⟨i0, hi, hzz⟩ := Option.map_eq_some_iff.1 info7
  simp only [Prod.mk.injEq] at hzz
  simp [sizeOf, typeInfo, hi, hzz.2.1]
theorem length_splice7 {L cs : List Value} {off : Nat} (h : off + cs.length ≤ L.length) : (splice L off cs).length = L.length := length_splice L off cs h
set_option maxRecDepth 100000 in
set_option maxHeartbeats 4000000 in
theorem einsert_shift {w : World} {B g n c i vb vc : Nat} {xs y : List Value} {Y : Array Value} {T : TypeId} (h : w.ownsRow B 56 7 (.slice (some ⟨g, 0, none⟩) n c) n xs) (hx1 : ∀ u ∈ xs, u.oneCell' = true) (hi : i < n) (hroom : n + 1 ≤ c) (hY : w.heap[vb]? = some (.cells Y T (0, 0))) (hYt : Y.toList = y) (hy : y.length = 7) (hy1 : ∀ u ∈ y, u.oneCell' = true) (hvb : vb ≠ g) :
    Calls Try.prog 28 #[.slice (some ⟨g, 0, none⟩) n c, .int .i64 i, .slice (some ⟨vb, 0, none⟩) 1 vc] w fun e w' => e = .returned (.slice (some ⟨g, 0, none⟩) (n + 1) c) ∧ w'.ownsRow B 56 7 (.slice (some ⟨g, 0, none⟩) (n + 1) c) (n + 1) (xs.take (i * 7) ++ y ++ xs.drop (i * 7)) ∧ w.grownBy w' (some g) := by
  rcases h with ⟨hxl, ⟨hv, _⟩ | ⟨g', cap', cur, hv, hbg, hg, hnc, hcm, hcs, hx⟩⟩
  · simp at hv
  simp only [Value.slice.injEq, Option.some.injEq, Addr.mk.injEq, and_true, true_and] at hv
  obtain ⟨rfl, rfl⟩ := hv
  have hcm' := hcm
  unfold maxLen at hcm'
  have hyc : ∀ j u, y[j]? = some u → w.cell? ⟨vb, j, none⟩ = some u := fun j u hu => by
    rw [blk_cell hY]
    rw [← hYt] at hu
    simpa using hu
  have hxc : ∀ j u, (xs.drop (i * 7))[j]? = some u → w.cell? ⟨g, i * 7 + j, none⟩ = some u := fun j u hu => by
    rw [blk_cell hg]
    rw [List.getElem?_drop, ← hx, List.getElem?_take] at hu
    split at hu
    · simpa using hu
    · cases hu
  have hov : ∀ lb cb, (callFunc 52 #[.slice (some ⟨vb, 0, none⟩) 1 vc, .slice (some ⟨g, (i + 1) * 7, none⟩) lb cb]).run Try.prog w = .ok (.value (.bool false)) w := fun lb cb => by
    rw [run_callFunc_extern Try.func52 (by kernel_rfl) (by kernel_rfl) (by kernel_rfl) (e := Extern.SlicesOverlaps.overlaps #[31, 31] #[4]) (by kernel_rfl),
      Lib.run_overlaps_apart w 31 4 56 Try.underlying31 7 size7 ⟨vb, 0, none⟩ ⟨g, (i + 1) * 7, none⟩ 1 vc lb cb hvb T 56 Y.size cur.size (by unfold World.shape?; rw [hY]) (by unfold World.shape?; rw [hg]) (by omega) (blk_frozen hY _) (blk_frozen hY _)]
    rfl
  have hi' : ¬ ((i : Int) = (n : Int)) := by omega
  have hw1 : IntKind.i64.wrap ((i : Int) + 1) = (i : Int) + 1 := by rw [IntKind.wrap_i64]; omega
  have hw2 : IntKind.i64.wrap ((n : Int) + 1) = (n : Int) + 1 := by rw [IntKind.wrap_i64]; omega
  have hb1 : (0 : Int) ≤ (i : Int) + 1 := by omega
  have hin : i ≤ n := by omega
  have htn : ((i : Int) + 1).toNat = i + 1 := by omega
  have htn2 : ((n : Int) + 1).toNat = n + 1 := by omega
  have hb2 : ¬ (c = i + 1) := by omega
  have hb3 : (i : Int) ≤ (n : Int) + 1 := by omega
  have hb4 : ¬ (c = i) := by omega
  have hcl : cur.toList.length = c * 7 := by simpa using hcs
  have HX := Aside0.mk hx
  have HXL := Aside0.mk hxl
  have HG := Aside0.mk (show w.heap[g]? = some (.cells cur.toList.toArray 56 (0, 0)) by simpa using hg)
  have HYC := Aside0.mk hyc
  have HXC := Aside0.mk hxc
  have HCL := Aside0.mk hcl
  have H1 := Aside0.mk (And.intro hx1 hy1)
  have HY := Aside0.mk (And.intro hY hbg)
  have H2 := Aside0.mk hcm
  clear hx hxl hg hyc hxc hcl hx1 hy1 hY hbg hcs hYt hcm
  go_enter Try.func28, Try.ntmps28
  go_wp2_with (simp only [hov])
  go_region_law (refine step_copy7 rfl (.tmp 73) (.tmp 76) rfl g ((i + 1) * 7) (n + 1 - (i + 1)) (c - (i + 1)) ⟨g, i * 7, none⟩ (n + 1 - i) (c - i) (by simp [Act.eval, Act.put]) (by simp [Act.eval, Act.put]) cur.toList HG.out (xs.drop (i * 7)) (by rw [List.length_drop, HXL.out, show Nat.min (n + 1 - i) (n + 1 - (i + 1)) = n - i from by show min _ _ = _; omega]; omega) (fun j u hu => by rw [Addr.add_lit]; exact HXC.out j u hu) (by rw [List.length_drop, HXL.out, HCL.out]; omega) (fun u hu => H1.out.1 u (List.mem_of_mem_drop hu)) w (⟨rfl, rfl, rfl, Nat.le_refl _, fun _ _ _ => rfl⟩ : w.grownBy w.drew (some g)) ?_; intro w2 hg2 hgr2)
  have hS1 : ∀ j u, y[j]? = some u → w2.cell? ((⟨vb, 0, none⟩ : Addr).add j) = some u := fun j u hu => by rw [Addr.add_lit, Nat.zero_add]; exact hgr2.cell (HYC.out j u hu) (by simpa using hvb)
  have hS2 : y.length = Nat.min 1 (n + 1 - i) * 7 := by rw [show Nat.min 1 (n + 1 - i) = 1 from by show min _ _ = _; omega, hy]
  have hS3 : i * 7 + y.length ≤ (splice cur.toList ((i + 1) * 7) (xs.drop (i * 7))).length := by rw [length_splice7 (by rw [List.length_drop, HXL.out, HCL.out]; omega), HCL.out, hy]; omega
  have hg2' : w2.heap[g]? = some (.cells (splice cur.toList ((i + 1) * 7) (xs.drop (i * 7))).toArray 56 (0, 0)) := hg2
  obtain ⟨w3, hw3⟩ : ∃ w3, w3 = w2.setRow g (splice (splice cur.toList ((i + 1) * 7) (xs.drop (i * 7))) (i * 7) y).toArray := ⟨_, rfl⟩
  have hcp : ∀ ty, (Builtin.copy_ #[31, 31] ty #[.slice (some ⟨g, i * 7, none⟩) (n + 1 - i) (c - i), .slice (some ⟨vb, 0, none⟩) 1 vc]).run Try.prog w2 = .ok (goInt (Nat.min 1 (n + 1 - i))) w3 := fun ty => by rw [hw3]; exact run_copy7 w2 ty _ hg2' y hS2 hS1 hS3 H1.out.2
  have hg3 : w3.heap[g]? = some (.cells (splice (splice cur.toList ((i + 1) * 7) (xs.drop (i * 7))) (i * 7) y).toArray 56 (0, 0)) := by rw [hw3]; exact setRow_heap w2 g _ _ _ _ hg2'
  have hgr3 : w.grownBy w3 (some g) := by rw [hw3]; exact hgr2.trans (setRow_grown w2 g _)
  have HG3 := Aside0.mk (And.intro hg3 hgr3)
  clear hS1 hS2 hS3 hg2 hgr2 hg2' hw3 hg3 hgr3
  go_wp2_with fail
  go_ret
  have h7 := splice_shift (y := y) (show i ≤ n by omega) HX.out (by rw [HCL.out]; omega) hy
  refine ⟨rfl, ⟨by simp [HXL.out, hy]; omega, .inr ⟨g, c, _, rfl, HY.out.2, HG3.out.1, by omega, H2.out, ?_, ?_⟩⟩, HG3.out.2⟩
  · have l1 := length_splice7 (L := cur.toList) (cs := xs.drop (i * 7)) (off := (i + 1) * 7) (by rw [List.length_drop, HXL.out, HCL.out]; omega)
    have l2 := length_splice7 (L := splice cur.toList ((i + 1) * 7) (xs.drop (i * 7))) (cs := y) (off := i * 7) (by rw [l1, HCL.out, hy]; omega)
    rw [List.size_toArray, l2, l1, HCL.out]
  · exact h7
theorem grown_alloc (w : World) (o : Obj) (row : Option Nat) : w.grownBy (w.drew.alloc o) row := ⟨(World.grownBy_alloc w.drew o row).os, (World.grownBy_alloc w.drew o row).tape, (World.grownBy_alloc w.drew o row).output, (World.grownBy_alloc w.drew o row).size, (World.grownBy_alloc w.drew o row).block⟩
set_option maxRecDepth 100000 in
set_option maxHeartbeats 4000000 in
theorem einsert_grow {w : World} {B g n c i vb vc : Nat} {xs y : List Value} {Y : Array Value} {T : TypeId} (h : w.ownsRow B 56 7 (.slice (some ⟨g, 0, none⟩) n c) n xs) (hx1 : ∀ u ∈ xs, u.oneCell' = true) (hi : i < n) (hn : n ≤ 1000000) (hroom : c < n + 1) (hY : w.heap[vb]? = some (.cells Y T (0, 0))) (hYt : Y.toList = y) (hy : y.length = 7) (hy1 : ∀ u ∈ y, u.oneCell' = true) :
    Calls Try.prog 28 #[.slice (some ⟨g, 0, none⟩) n c, .int .i64 i, .slice (some ⟨vb, 0, none⟩) 1 vc] w fun e w' => ∃ v', e = .returned v' ∧ w'.ownsRow B 56 7 v' (n + 1) (xs.take (i * 7) ++ y ++ xs.drop (i * 7)) ∧ w.grownBy w' (some g) := by
  rcases h with ⟨hxl, ⟨hv, _⟩ | ⟨g', cap', cur, hv, hbg, hg, hnc, hcm, hcs, hx⟩⟩
  · simp at hv
  simp only [Value.slice.injEq, Option.some.injEq, Addr.mk.injEq, and_true, true_and] at hv
  obtain ⟨rfl, rfl⟩ := hv
  have hyc : ∀ j u, y[j]? = some u → w.cell? ⟨vb, j, none⟩ = some u := fun j u hu => by
    rw [blk_cell hY]
    rw [← hYt] at hu
    simpa using hu
  have hxc0 : ∀ j u, xs[j]? = some u → w.cell? ⟨g, j, none⟩ = some u := fun j u hu => by
    rw [blk_cell hg]
    rw [← hx, List.getElem?_take] at hu
    split at hu
    · simpa using hu
    · cases hu
  have hgs := blk_lt hg
  have hvs := blk_lt hY
  obtain ⟨i0, hi0, hzz⟩ := Option.map_eq_some_iff.1 info7
  simp only [Prod.mk.injEq] at hzz
  obtain ⟨hz0, hz1, hz2⟩ := hzz
  have hold : (Builtin.firstCells i0.size i (.slice (some ⟨g, 0, none⟩) i c)).run Try.prog w.drew = .ok (xs.take (i * 7)).toArray w.drew := by
    rw [hz1]
    exact run_firstCells_some w.drew 7 i ⟨g, 0, none⟩ i c (xs.take (i * 7)) (by rw [List.length_take]; omega) (fun j u hu => by
      rw [Addr.add_lit, Nat.zero_add]
      rw [List.getElem?_take] at hu
      split at hu
      · exact hxc0 j u hu
      · cases hu)
  obtain ⟨G, hG⟩ : ∃ G, G = grownCap w (n + 1) c 56 := ⟨_, rfl⟩
  obtain ⟨z, hz⟩ : ∃ z : List Value, z = (Builtin.zeroCells (Value.agg #[.slice none 0 0, .int .u64 0, .bool false, .int .i64 0, .int .u64 0, .int .i64 0, .int .i64 0]).cells (n + 1 - i) ++ Builtin.zeroCells (Value.agg #[.slice none 0 0, .int .u64 0, .bool false, .int .i64 0, .int .u64 0, .int .i64 0, .int .i64 0]).cells (G - (n + 1))).toList := ⟨_, rfl⟩
  obtain ⟨W1, hW1⟩ : ∃ W1, W1 = w.drew.alloc (.cells (xs.take (i * 7) ++ z).toArray 56) := ⟨_, rfl⟩
  have hik : i + (n + 1 - i) = n + 1 := by omega
  have hkk : (n : Int) + 1 - (i : Int) = ((n + 1 - i : Nat) : Int) := by omega
  have hrz : ∀ ty, (Builtin.append_ #[31, 3] ty #[.slice (some ⟨g, 0, none⟩) i c, .int .i64 ((n : Int) + 1 - (i : Int))]).run Try.prog w = .ok (.slice (some ⟨w.heap.size, 0, none⟩) (n + 1) G) W1 := fun ty => by
    have h := Lib.run_append_grow_zeros w 31 3 ty 56 i0 _ .i64 .i64 Try.underlying31 Try.underlying3 hi0 hz0 (some ⟨g, 0, none⟩) i c (xs.take (i * 7)) hold (n + 1 - i) (by omega) (by omega) (by omega) (by omega) (by rw [hz2]; omega) (by rw [hz2, hik]; exact growslice_fits hroom (by omega))
    rw [hik] at h
    rw [hkk, h, hW1, hz, hG]
    congr 3
    apply Array.ext'
    simp
  have hG1 : n + 1 ≤ G := by rw [hG]; exact grownCap_ge w _ _ _
  have hG2 : G ≤ maxLen := by rw [hG]; exact grownCap_le_maxLen w (n + 1) c 56 (by unfold maxLen; omega)
  have hzl : z.length = (G - i) * 7 := by
    rw [hz, Array.length_toList, Array.size_append, size_zeroCells, size_zeroCells]
    have : (Value.agg #[.slice none 0 0, .int .u64 0, .bool false, .int .i64 0, .int .u64 0, .int .i64 0, .int .i64 0]).cells.size = 7 := by kernel_rfl
    rw [this]
    omega
  have hN : W1.heap[w.heap.size]? = some (.cells (xs.take (i * 7) ++ z).toArray 56 (0, 0)) := by rw [hW1]; exact heap_alloc_new w.drew _
  have hK : w.grownBy W1 (some g) := by rw [hW1]; exact grown_alloc w _ _
  have hK0 : w.grownBy W1 none := by rw [hW1]; exact grown_alloc w _ _
  have hl0 : (xs.take (i * 7)).length = i * 7 := by rw [List.length_take]; omega
  have hl1 : (xs.take (i * 7) ++ z).length = G * 7 := by rw [List.length_append, hzl, hl0]; omega
  obtain ⟨W2, hW2⟩ : ∃ W2, W2 = W1.setRow w.heap.size (splice (xs.take (i * 7) ++ z) (i * 7) y).toArray := ⟨_, rfl⟩
  have hcp : ∀ ty, (Builtin.copy_ #[31, 31] ty #[.slice (some ⟨w.heap.size, i * 7, none⟩) (n + 1 - i) (G - i), .slice (some ⟨vb, 0, none⟩) 1 vc]).run Try.prog W1 = .ok (goInt (Nat.min 1 (n + 1 - i))) W2 := fun ty => by
    rw [hW2]
    exact run_copy7 W1 ty _ hN y (by rw [show Nat.min 1 (n + 1 - i) = 1 from by show min _ _ = _; omega, hy]) (fun j u hu => by rw [Addr.add_lit, Nat.zero_add]; exact hK0.cell (hyc j u hu) (by simp)) (by rw [hl1, hy]; omega) hy1
  have hN2 : W2.heap[w.heap.size]? = some (.cells (splice (xs.take (i * 7) ++ z) (i * 7) y).toArray 56 (0, 0)) := by rw [hW2]; exact setRow_heap W1 _ _ _ _ _ hN
  have hK2 : w.grownBy W2 none := by
    rw [hW2]
    refine ⟨hK0.os, hK0.tape, hK0.output, by simpa [World.setRow] using hK0.size, fun k hk _ => ?_⟩
    rw [setRow_other W1 _ k _ (by omega)]
    exact hK0.block k hk (by simp)
  have hl2 : (splice (xs.take (i * 7) ++ z) (i * 7) y).length = G * 7 := by rw [length_splice7 (by rw [hl1, hy]; omega), hl1]
  have hxc : ∀ j u, (xs.drop (i * 7))[j]? = some u → W2.drew.cell? ((⟨g, i * 7, none⟩ : Addr).add j) = some u := fun j u hu => by
    rw [Addr.add_lit]
    rw [List.getElem?_drop] at hu
    exact hK2.cell (hxc0 _ u hu) (by simp)
  have h7 := splice_new (z := z) (y := y) (show i ≤ n by omega) hxl (by rw [hzl]; exact Nat.mul_le_mul_right _ (by omega)) hy
  have hl3 : (splice (splice (xs.take (i * 7) ++ z) (i * 7) y) ((i + 1) * 7) (xs.drop (i * 7))).length = G * 7 := by rw [length_splice7 (by rw [hl2, List.length_drop, hxl]; omega), hl2]
  have HL := Aside0.mk (And.intro h7 (And.intro hl3 (And.intro hl2 hxl)))
  have HX := Aside0.mk (And.intro hxc (And.intro hN2 hK2))
  have H1 := Aside0.mk (And.intro hx1 hy1)
  have HB := Aside0.mk (show B ≤ w.heap.size by omega)
  have HM := Aside0.mk hG2
  have hi' : ¬ ((i : Int) = (n : Int)) := by omega
  have hw1 : IntKind.i64.wrap ((i : Int) + 1) = (i : Int) + 1 := by rw [IntKind.wrap_i64]; omega
  have hw2 : IntKind.i64.wrap ((n : Int) + 1) = (n : Int) + 1 := by rw [IntKind.wrap_i64]; omega
  have hw3 : IntKind.i64.wrap ((n : Int) + 1 - (i : Int)) = (n : Int) + 1 - (i : Int) := by rw [IntKind.wrap_i64]; omega
  have hb1 : (0 : Int) ≤ (i : Int) + 1 := by omega
  have hin : i ≤ n := by omega
  have hic : (i : Int) ≤ (c : Int) := by omega
  have htn : ((i : Int) + 1).toNat = i + 1 := by omega
  have hb2 : ¬ (G = i + 1) := by omega
  have hb3 : (i : Int) ≤ (n : Int) + 1 := by omega
  have hb4 : ¬ (G = i) := by omega
  have hb5 : ¬ (c = i) := by omega
  have hb6 : (c : Int) < (n : Int) + 1 := by omega
  clear hx1 hy1 hy hyc hxc0 hxc hN hN2 hK hK0 hK2 hl0 hl1 hl2 hl3 h7 hxl hY hYt hW1 hW2 hz hzl hold hG hG2 hik hkk hx hg hcs hcm hbg hz0 hz1 hz2 hi0
  go_enter Try.func28, Try.ntmps28
  go_wp2_with (at_builtin; refine Lib.wpList_append_run _ rfl _ _ _ _ rfl _ _ rfl rfl _ _ (hrz _) ?_)
  go_region_law (refine step_copy7 rfl (.tmp 50) (.tmp 53) rfl w.heap.size ((i + 1) * 7) (n + 1 - (i + 1)) (G - (i + 1)) ⟨g, i * 7, none⟩ (n - i) (c - i) (by simp [Act.eval, Act.put]) (by simp [Act.eval, Act.put]) _ HX.out.2.1 (xs.drop (i * 7)) (by rw [List.length_drop, HL.out.2.2.2, show Nat.min (n - i) (n + 1 - (i + 1)) = n - i from by show min _ _ = _; omega]; omega) HX.out.1 (by rw [List.length_drop, HL.out.2.2.2, HL.out.2.2.1]; omega) (fun u hu => H1.out.1 u (List.mem_of_mem_drop hu)) W2.drew (World.grownBy.refl _ _) ?_; intro w3 hg3 hgr3)
  have HG3 := Aside0.mk (And.intro (show w3.heap[w.heap.size]? = some (.cells (splice (splice (xs.take (i * 7) ++ z) (i * 7) y) ((i + 1) * 7) (xs.drop (i * 7))).toArray 56 (0, 0)) from hg3) hgr3)
  clear hg3 hgr3
  go_wp2_with fail
  go_ret
  have hK2 := HX.out.2.2
  have hgr3 := HG3.out.2
  refine ⟨_, rfl, ⟨by have := HL.out.1; rw [← this, List.length_take, HL.out.2.1]; omega, .inr ⟨w.heap.size, G, _, rfl, HB.out, HG3.out.1, hG1, HM.out, ?_, ?_⟩⟩, ?_⟩
  · rw [List.size_toArray, HL.out.2.1]
  · exact HL.out.1
  · refine ⟨hgr3.os.trans hK2.os, hgr3.tape.trans hK2.tape, hgr3.output.trans hK2.output, Nat.le_trans hK2.size hgr3.size, fun k hk _ => ?_⟩
    exact (hgr3.block k (Nat.lt_of_lt_of_le hk hK2.size) (by simp; omega)).trans (hK2.block k hk (by simp))
set_option maxRecDepth 100000 in
set_option maxHeartbeats 4000000 in
theorem einsert_end {w : World} {B n vb vc : Nat} {v : Value} {xs y : List Value} {Y : Array Value} {T : TypeId} (h : w.ownsRow B 56 7 v n xs) (hB : B ≤ w.heap.size) (hn : n ≤ 1000000) (hY : w.heap[vb]? = some (.cells Y T (0, 0))) (hYt : Y.toList = y) (hy : y.length = 7) (hy1 : ∀ u ∈ y, u.oneCell' = true) :
    Calls Try.prog 28 #[v, .int .i64 n, .slice (some ⟨vb, 0, none⟩) 1 vc] w fun e w' => ∃ v', e = .returned v' ∧ w'.ownsRow B 56 7 v' (n + 1) (xs ++ y) ∧ w.grownBy w' v.ownBlock := by
  have hyc : ∀ j u, y[j]? = some u → w.cell? ((⟨vb, 0, none⟩ : Addr).add j) = some u := fun j u hu => by
    rw [Addr.add_lit, Nat.zero_add, blk_cell hY]
    rw [← hYt] at hu
    simpa using hu
  obtain ⟨i0, hi, hzz⟩ := Option.map_eq_some_iff.1 info7
  simp only [Prod.mk.injEq] at hzz
  obtain ⟨hz0, hz1, hz2⟩ := hzz
  have H := Aside0.mk (And.intro h (And.intro hyc (And.intro hy hy1)))
  have HB := Aside0.mk hB
  rcases h.2 with ⟨rfl, rfl⟩ | ⟨g, c, cur, rfl, hbg, hg, hnc, hcm, hcs, hx⟩
  · clear h hyc hy hy1 hY hYt hB
    go_enter Try.func28, Try.ntmps28
    go_wp2_with (at_builtin; refine wpList_append_own_at _ rfl _ _ 31 rfl B 56 i0 _ 7 72 Try.underlying31 hi hz0 hz1 hz2 rfl (by decide) _ _ _ rfl H.out.1 ⟨vb, 0, none⟩ 1 vc y rfl H.out.2.2.1 H.out.2.1 H.out.2.2.2 (by simp only [maxLen]; omega) (by omega) HB.out ?_; intro v7 w7 hown7 hg7 hnil7 hat7)
    go_ret
    exact ⟨v7, rfl, hown7, hg7⟩
  · have hb1 : n ≤ c := hnc
    clear h hyc hy hy1 hY hYt hB hbg hg hnc hcm hcs hx
    go_enter Try.func28, Try.ntmps28
    go_wp2_with (at_builtin; refine wpList_append_own_at _ rfl _ _ 31 rfl B 56 i0 _ 7 72 Try.underlying31 hi hz0 hz1 hz2 rfl (by decide) _ _ _ rfl H.out.1 ⟨vb, 0, none⟩ 1 vc y rfl H.out.2.2.1 H.out.2.1 H.out.2.2.2 (by simp only [maxLen]; omega) (by omega) HB.out ?_; intro v7 w7 hown7 hg7 hnil7 hat7)
    all_goals (go_ret; exact ⟨v7, rfl, hown7, hg7⟩)
theorem eflat_len (es : List Ent) : (es.flatMap Ent.cells).length = es.length * 7 := by
  induction es with
  | nil => rfl
  | cons x r ih => rw [List.flatMap_cons, List.length_append, ih]; simp [Ent.cells]; omega
theorem eflat_cut (es : List Ent) (i : Nat) (hi : i ≤ es.length) : (es.flatMap Ent.cells).take (i * 7) = (es.take i).flatMap Ent.cells ∧ (es.flatMap Ent.cells).drop (i * 7) = (es.drop i).flatMap Ent.cells := by
  have h1 : es.flatMap Ent.cells = (es.take i).flatMap Ent.cells ++ (es.drop i).flatMap Ent.cells := by rw [← List.flatMap_append, List.take_append_drop]
  have h2 : ((es.take i).flatMap Ent.cells).length = i * 7 := by rw [eflat_len, List.length_take]; omega
  rw [h1]
  exact ⟨List.take_left' h2, List.drop_left' h2⟩
theorem eflat_one (es : List Ent) : ∀ u ∈ es.flatMap Ent.cells, u.oneCell' = true := fun u hu => by
  obtain ⟨x, _, hx⟩ := List.mem_flatMap.1 hu
  exact cells_one x u hx
theorem einsert_c {w : World} {B i vb vc : Nat} {v : Value} {es : List Ent} {x : Ent} {Y : Array Value} {T : TypeId} (h : w.ownsRow B 56 7 v es.length (es.flatMap Ent.cells)) (hi : i ≤ es.length) (hn : es.length ≤ 1000000) (hB : B ≤ w.heap.size) (hY : w.heap[vb]? = some (.cells Y T (0, 0))) (hYt : Y.toList = x.cells) (hvb : v.ownBlock ≠ some vb) :
    Calls Try.prog 28 #[v, .int .i64 i, .slice (some ⟨vb, 0, none⟩) 1 vc] w fun e w' => ∃ v', e = .returned v' ∧ w'.ownsRow B 56 7 v' (es.length + 1) ((es.take i ++ x :: es.drop i).flatMap Ent.cells) ∧ w.grownBy w' v.ownBlock := by
  obtain ⟨h1, h2⟩ := eflat_cut es i hi
  have h3 : (es.take i ++ x :: es.drop i).flatMap Ent.cells = (es.flatMap Ent.cells).take (i * 7) ++ x.cells ++ (es.flatMap Ent.cells).drop (i * 7) := by rw [h1, h2]; simp
  have hy : x.cells.length = 7 := rfl
  rw [h3]
  rcases Nat.lt_or_eq_of_le hi with hlt | rfl
  · obtain ⟨g, c, rfl⟩ : ∃ g c, v = .slice (some ⟨g, 0, none⟩) es.length c := by
      rcases h.2 with ⟨_, h0⟩ | ⟨g, c, _, hv, _⟩
      · omega
      · exact ⟨g, c, hv⟩
    by_cases hr : es.length + 1 ≤ c
    · exact (einsert_shift h (eflat_one es) hlt hr hY hYt hy (cells_one x) (by intro e; exact hvb (by rw [e]; rfl))).mono fun e w' ⟨h4, h5, h6⟩ => ⟨_, h4, h5, h6⟩
    · exact einsert_grow h (eflat_one es) hlt hn (by omega) hY hYt hy (cells_one x)
  · rw [← eflat_len, List.take_length, List.drop_length, List.append_nil]
    exact einsert_end h hB hn hY hYt hy (cells_one x)
end Go.Proofs.Ytoikaegohkolkaa.Top
