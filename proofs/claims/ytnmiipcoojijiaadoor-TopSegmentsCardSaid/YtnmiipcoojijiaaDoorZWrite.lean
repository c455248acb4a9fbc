/-
  wal.Write; conditions: those that each theorem states.
-/
import Derived.Test.YtnmiipcoojijiaaDoorGI
namespace Go.Proofs.YtnmiipcoojijiaaDoor.Top
set_option linter.unusedSimpArgs false
set_option linter.unusedVariables false
open Go.RowKit Go.Proofs.YtnmiipcoojijiaaDoorW.PrintWords Go.Proofs.YtnmiipcoojijiaaDoorW.PrintLast Go.Proofs.YtnmiipcoojijiaaDoorW.PrintMore Go.Proofs.YtnmiipcoojijiaaDoor.Plain Go.Proofs.YtnmiipcoojijiaaDoor.Fns
/-- What Write gives. -/
def WriteR (l : List Lib.S59) (m : Int) (w : World) (e : Ending) (w' : World) : Prop :=
  (rightR l m = false → e = .returned (.tuple #[.slice none 0 0, .int .i64 90])) ∧ (rightR l m = true → ∃ v, e = .returned (.tuple #[v, .int .i64 0]) ∧ w'.ownsRow w.heap.size 5 1 v (recB l m).length (nums .u8 (recB l m))) ∧ Below w.heap.size w w'
/-- One byte in a row of its own. -/
theorem own_one {W : World} {B k : Nat} {x : Int} (h : W.heap[k]? = some (.cells #[.int .u8 x] 5 (0, 0))) (hB : B ≤ k) : W.ownsRow B 5 1 (.slice (some ⟨k, 0, none⟩) [x].length 1) [x].length (nums .u8 [x]) :=
  ⟨rfl, .inr ⟨k, 1, _, rfl, hB, h, by simp, by simp only [maxLen]; omega, rfl, rfl⟩⟩
/-- What has been written so far. -/
structure WrI (w : World) (l : List Int) (v : Value) (W : World) : Prop where
  own : W.ownsRow w.heap.size 5 1 v l.length (nums .u8 l)
  be : Below w.heap.size w W
theorem WrI.below {w W W1 : World} {l : List Int} {v : Value} (h : WrI w l v W) (hb : Below W.heap.size W W1) : WrI w l v W1 := ⟨own_below h.own hb, h.be.trans (hb.mono h.be.size)⟩
theorem WrI.app {w W W1 : World} {l k : List Int} {v v' : Value} (h : WrI w l v W) (ho : W1.ownsRow w.heap.size 5 1 v' (l ++ k).length (nums .u8 (l ++ k))) (hg : W.grownBy W1 v.ownBlock) : WrI w (l ++ k) v' W1 := ⟨ho, h.be.grown hg h.be.size (fun b hb => (h.own.lt b hb).1)⟩
theorem WrI.box {w W W1 : World} {l : List Int} {v : Value} {b : Nat} {cs : Array Value} {t : TypeId} (h : WrI w l v W) (hg : W.grownBy W1 v.ownBlock) (hb : W.heap[b]? = some (.cells cs t (0, 0))) (ht : t ≠ 5) : W1.heap[b]? = some (.cells cs t (0, 0)) :=
  (hg.block b (blk_lt hb) (fun e => by
    obtain ⟨cs', hc⟩ := own_typed h.own b e.symm
    rw [hb] at hc
    simp only [Option.some.injEq, Obj.cells.injEq] at hc
    exact ht hc.2.1)).trans hb
theorem take_flat {α : Type} {f : α → List Int} {l : List α} {j : Nat} (h : j < l.length) : (l.take (j + 1)).flatMap f = (l.take j).flatMap f ++ f l[j] := by
  rw [List.take_succ_eq_append_getElem h, List.flatMap_append, List.flatMap_singleton]
theorem flat_take_le {α : Type} {f : α → List Int} {n : Nat} (l : List α) (j : Nat) (h : ∀ x ∈ l, (f x).length ≤ n) : ((l.take j).flatMap f).length ≤ l.length * n := by
  have h1 := flat_le (f := f) (n := n) (l.take j) (fun x hx => h x (List.mem_of_mem_take hx))
  have h2 : (l.take j).length * n ≤ l.length * n := Nat.mul_le_mul_right _ (by rw [List.length_take]; omega)
  omega
theorem rds_at {w : World} {A : Option Addr} {l : List ByteArray} (h : RdS w A l) {j : Nat} (hj : j < l.length) : ∃ ad, A = some ad ∧ w.cell? (ad.add j) = some (.string l[j]) := by
  obtain ⟨ad, hA, hcell⟩ := Kd.at_string h (j : Int) (by omega) (by omega)
  have hrd : rdOf ByteArray.empty l (j : Int) = l[j] := by
    unfold rdOf
    rw [Int.toNat_natCast, List.getD_eq_getElem?_getD, List.getElem?_eq_getElem hj]; rfl
  rw [hrd, Int.toNat_natCast] at hcell
  exact ⟨ad, hA, hcell⟩
theorem step_app_n {ops : Array Oper} {o : Oper} {a : Act} {w : World} {K : Act → World → Prop} {Q : Exit → Act → World → Prop} {E : Prop} (hgd : o.guard = none) (s x : Operand)
    (ho : o.op = .call { callee := .builtin .append, args := #[s, x], argTypes := #[60, 60] }) {B n : Nat} {v : Value} {l k : List Int} {A : Option Addr} {c : Nat} (hs : a.eval s = v) (hx : a.eval x = .slice A n c) (hn : n = k.length)
    (hown : w.ownsRow B 5 1 v l.length (nums .u8 l)) (hk : RdB w A k) (hc0 : A = none → c = 0) (hl : l.length + k.length < 1000000000) (hB : B ≤ w.heap.size)
    (h : ∀ v' w', w'.ownsRow B 5 1 v' (l ++ k).length (nums .u8 (l ++ k)) → w.grownBy w' v.ownBlock → (v'.ownBlock = v.ownBlock ∨ v'.ownBlock = some w.heap.size) → K (a.put o.dst v') w') : if Region.wanted o (yielded ops a.tmps) = true then Oper.wp Tryd.prog o a w K Q else E := by
  subst hn
  exact step_append_bytes hgd s x ho hs hx hown hk hc0 hl hB h
/-- A number's bytes as a row that was made. -/
theorem num_row {w : World} {v : Int} {k : List Int} (h : -9223372036854775808 ≤ v ∧ v < 9223372036854775808) (hk : k = numB v) : Calls Tryd.prog 37 #[.int .i64 v] w fun e w' => ∃ (A : Option Addr) (c : Nat), e = .returned (.slice A 8 c) ∧ RdB w' A k ∧ (A = none → c = 0) ∧ Below w.heap.size w w' := by
  subst hk
  refine (cnumber_c h).mono fun e w' ⟨u, he, ho, hb⟩ => ?_
  obtain ⟨A, c, rfl, hr, _, hz, _⟩ := own_form ho
  rw [numB_len] at he
  exact ⟨A, c, he, hr, hz, hb⟩
/-- The state of a fact that is being written. -/
structure FxI (w : World) (l : List Int) (v : Value) (xb : Nat) (cs : Array Value) (W : World) : Prop where
  wr : WrI w l v W
  bx : W.heap[xb]? = some (.cells cs 59 (0, 0))
theorem FxI.below {w W W1 : World} {l : List Int} {v : Value} {xb : Nat} {cs : Array Value} (h : FxI w l v xb cs W) (hb : Below W.heap.size W W1) : FxI w l v xb cs W1 := ⟨h.wr.below hb, (hb.block _ (blk_lt h.bx)).trans h.bx⟩
theorem FxI.app {w W W1 : World} {l k : List Int} {v v' : Value} {xb : Nat} {cs : Array Value} (h : FxI w l v xb cs W) (ho : W1.ownsRow w.heap.size 5 1 v' (l ++ k).length (nums .u8 (l ++ k))) (hg : W.grownBy W1 v.ownBlock) : FxI w (l ++ k) v' xb cs W1 := ⟨h.wr.app ho hg, h.wr.box hg h.bx (by decide)⟩
theorem FxI.cell {w W : World} {l : List Int} {v : Value} {xb : Nat} {cs : Array Value} (h : FxI w l v xb cs W) (i : Nat) : W.cell? ⟨xb, i, none⟩ = cs[i]? := blk_cell h.bx i
/-- The dimensions, one behind the other, behind what is there. -/
def dimsP (l : List Int) (x : Lib.S59) (t : Nat) : List Int := l ++ sh x.f0.length ++ (x.f0.take t).flatMap dimB
set_option maxRecDepth 100000 in
set_option maxHeartbeats 8000000 in
theorem write_c {w : World} {r : Rc} (h : r.rd w) (hm : -9223372036854775808 ≤ r.m ∧ r.m < 9223372036854775808) : Calls Tryd.prog 21 #[r.v] w (WriteR r.fs r.m w) := by
  have HA : ∀ o, Below w.heap.size w (w.alloc o) := fun o => (Below.refl _ w).alloc (Nat.le_refl _) o
  have HR := Aside0.mk (fun (W : World) (hb : Below w.heap.size w W) => right_c (h.below hb))
  have H := Aside0.mk h
  have hokd : r.ok = rightR r.fs r.m := rfl
  unfold WriteR
  unfold Rc.v at HR ⊢
  rw [hokd] at HR
  cases hq : rightR r.fs r.m with
  | false =>
    rw [hq] at HR
    clear h hq hokd
    go_enter Tryd.func21, Tryd.ntmps21
    go_wp2_with (first | (go_at_call 36; refine (HR.out _ (HA _)).mono ?_; rintro e w2 ⟨rfl, hb⟩) | fail)
    go_ret2
    exact ⟨fun _ => rfl, fun h => (by cases h), (HA _).trans (hb.mono (HA _).size)⟩
  | true =>
    rw [hq] at HR
    have hlen := fs_len r
    by_cases h0 : r.xs.length = 0
    · have hmm := right_mark hq (by rw [hlen]; exact h0)
      have hrec : recB r.fs r.m = [2] ++ numB r.m := by unfold recB; rw [if_pos (by rw [hlen]; exact h0)]; rfl
      have HN := Aside0.mk (fun W : World => cnumber_c (w := W) hm)
      have HREC := Aside0.mk hrec
      rw [h0]
      rw [h0] at HR
      clear h hq hokd hlen hmm hrec h0
      go_enter Tryd.func21, Tryd.ntmps21
      go_wp2_with (first
        | (go_at_call 36; refine (HR.out _ (HA _)).mono ?_; rintro e w2 ⟨rfl, hb⟩
           have y0 : w2.cell? ⟨w.heap.size, 0, none⟩ = some (.slice r.R 0 r.c) := cell_below hb ((blk_cell (al_new rfl) 0).trans rfl)
           have y1 : w2.cell? ⟨w.heap.size, 1, none⟩ = some (.int .i64 r.m) := cell_below hb ((blk_cell (al_new rfl) 1).trans rfl)
           have y1' : (w2.alloc (.cells #[.int .u8 2] 5)).cell? ⟨w.heap.size, 1, none⟩ = some (.int .i64 r.m) := cell_below ((Below.refl _ w2).alloc (Nat.le_refl _) _) y1
           have hbA := ((HA _).trans (hb.mono (HA _).size)).alloc (Nat.le_trans (HA _).size hb.size) (.cells #[.int .u8 2] 5))
        | (go_at_call 37; refine (HN.out _).mono ?_; rintro e w3 ⟨u, rfl, hu, hb3⟩
           obtain ⟨An, cn, rfl, hrn, hcn, hcn0, _⟩ := own_form hu
           have ho2 : w3.ownsRow w.heap.size 5 1 (.slice (some ⟨w2.heap.size, 0, none⟩) [(2 : Int)].length 1) [(2 : Int)].length (nums .u8 [2]) := own_below (own_one (al_new rfl) (Nat.le_trans (HA _).size hb.size)) hb3)
        | (at_builtin; refine wpList_append_bytes rfl _ _ (by rfl) (by rfl) (by rfl) ho2 hrn hcn0 (by rw [numB_len]; simp) (by have := hb3.size; have := hbA.size; omega) ?_; intro v' w4 ho4 hg4 hat4)
        | fail)
      go_ret2
      rw [← HREC.out] at ho4
      refine ⟨fun h => (by cases h), fun _ => ⟨v', rfl, ho4⟩, ?_⟩
      exact (hbA.trans (hb3.mono hbA.size)).grown hg4 (Nat.le_trans hbA.size hb3.size) (fun k hk => (ho2.lt k hk).1)
    · have hlen0 : r.fs.length ≠ 0 := by rw [hlen]; exact h0
      obtain ⟨hm1, hn16, hmay⟩ := right_facts hq hlen0
      rw [hlen] at hn16
      have hrec : recB r.fs r.m = (1 :: sh r.xs.length) ++ r.fs.flatMap factB := by unfold recB; rw [if_neg hlen0, hlen]
      have HREC := Aside0.mk hrec
      have HMY := Aside0.mk (And.intro hmay hlen)
      have HN := Aside0.mk (fun (W : World) (v : Int) (hv : -9223372036854775808 ≤ v ∧ v < 9223372036854775808) => cnumber_c (w := W) hv)
      have HSH := Aside0.mk (fun (W : World) (u : Nat) (hu : u < 18446744073709551616) => short_c (w := W) hu)
      have HTX := Aside0.mk (fun (W : World) (s : ByteArray) (hs : s.size ≤ 100000) => text_c (w := W) hs)
      obtain ⟨n, hn⟩ : ∃ n, n = r.xs.length := ⟨_, rfl⟩
      rw [← hn] at HREC HR hn16 h0 ⊢
      have HNN := Aside0.mk hn
      have t0 : decide (n = 0) = false := decide_eq_false h0
      have t0' : decide ((n : Int) = 0) = false := decide_eq_false (by omega)
      have e1 : IntKind.u64.wrap (n : Int) = (n : Int) := IntWalk.u64_in _ (by omega)
      clear h hq hokd hlen hrec hlen0 hm1 hmay hn
      go_enter Tryd.func21, Tryd.ntmps21
      go_wp2_with (first
        | (go_at_call 36; refine (HR.out _ (HA _)).mono ?_; rintro e w2 ⟨rfl, hb⟩
           have y0 : w2.cell? ⟨w.heap.size, 0, none⟩ = some (.slice r.R n r.c) := cell_below hb ((blk_cell (al_new rfl) 0).trans rfl)
           have y0' : (w2.alloc (.cells #[.int .u8 1] 5)).cell? ⟨w.heap.size, 0, none⟩ = some (.slice r.R n r.c) := cell_below ((Below.refl _ w2).alloc (Nat.le_refl _) _) y0
           have hbA := ((HA _).trans (hb.mono (HA _).size)).alloc (Nat.le_trans (HA _).size hb.size) (.cells #[.int .u8 1] 5)
           have hI2 : WrI w [1] (.slice (some ⟨w2.heap.size, 0, none⟩) [(1 : Int)].length 1) (w2.alloc (.cells #[.int .u8 1] 5)) := ⟨own_one (al_new rfl) (Nat.le_trans (HA _).size hb.size), hbA⟩)
        | (go_at_call 38; refine (HSH.out _ n (by omega)).mono ?_; rintro e w3 ⟨u, rfl, hu, hb3⟩
           obtain ⟨An, cn, rfl, hrn, hcn, hcn0, _⟩ := own_form hu
           have hI3 := hI2.below hb3
           have y3 := cell_below hb3 y0')
        | (at_builtin; refine wpList_append_bytes rfl _ _ (by rfl) (by rfl) (by rfl) hI3.own hrn hcn0 (by have := sh_length_le 2 n (by omega); simp; omega) (hI3.be.size) ?_; intro v' w4 ho4 hg4 hat4
           have hI4 := hI3.app ho4 hg4
           have hbx4 : w4.heap[w.heap.size]? = some (.cells #[.slice r.R n r.c, .int .i64 r.m] 37 (0, 0)) := hI3.box hg4 ((hb3.block _ (by have := hbA.size; have := (HA (.cells #[.slice r.R n r.c, .int .i64 r.m] 37)).size; have := hb.size; simp [World.size_alloc] at *; omega)).trans (al_old ((hb.block _ (by simp [World.size_alloc])).trans (al_new rfl)) _)) (by decide)
           have y4 : w4.cell? ⟨w.heap.size, 0, none⟩ = some (.slice r.R n r.c) := (blk_cell hbx4 0).trans rfl)
        | fail)
      have HI4 : Aside0 (WrI w (([1] ++ sh n) ++ (r.fs.take 0).flatMap factB) v' w4) := ⟨by simpa using hI4⟩
      clear hI4 hbx4 y4 y3 hI3 hI2 y0 y0' hbA ho4 hg4 hat4 hb3 hb hu hrn hcn hcn0
      go_loopw [4, 31] (fun ov i wr => ∃ (j : Nat), i = .int .i64 j ∧ j ≤ n ∧ Aside0 (WrI w (([1] ++ sh n) ++ (r.fs.take j).flatMap factB) ov wr)) (fun _ i _ => n - (intOf i).toNat)
      case atStart => exact ⟨0, rfl, by omega, HI4⟩
      case round =>
        clear HI4
        obtain ⟨j, rfl, hj, HI⟩ := hrel
        by_cases hlt : j < n
        · have t1 : decide (j < n) = true := decide_eq_true hlt
          have hjx : j < r.xs.length := by rw [← HNN.out]; exact hlt
          have hRs := H.out.a (by intro e; rw [e] at hjx; simp at hjx)
          have hE := H.out.row.below HI.out.be
          obtain ⟨x0, x1, x2⟩ := hE.cells hjx
          have hrd := H.out.row.rd _ (List.getElem_mem hjx)
          have hjf : j < r.fs.length := by rw [HMY.out.2]; exact hjx
          have hxs : r.xs[j].s = r.fs[j] := by simp [Rc.fs]
          have hmj := may_dims (HMY.out.1 _ (List.getElem_mem hjf))
          have htk := take_flat (f := factB) hjf
          have hln := flat_take_le (f := factB) (n := 200) r.fs j (fun s hs => factB_len (HMY.out.1 s hs))
          rw [HMY.out.2, ← HNN.out] at hln
          rw [← hxs] at hmj htk
          have HTK := Aside0.mk (And.intro htk hln)
          have HRD := Aside0.mk (And.intro hrd hmj)
          clear hE hrd hjf hxs hmj htk hln
          generalize r.xs[j] = x at *
          rw [hRs]
          clear hjx hRs
          obtain ⟨dA, dc, ⟨ds, at', va⟩⟩ := x
          simp only at x0 x1 x2 HTK HRD
          have hds : ds.length ≤ 4 := HRD.out.2.1
          have e2 : IntKind.u64.wrap (ds.length : Int) = (ds.length : Int) := IntWalk.u64_in _ (by omega)
          obtain ⟨nd, hnd⟩ : ∃ nd, nd = ds.length := ⟨_, rfl⟩
          have HND := Aside0.mk hnd
          rw [← hnd] at x0 e2 hds
          clear hnd
          have hbA := (Below.refl wr.heap.size wr).alloc (Nat.le_refl _) (.cells #[.slice dA nd dc, .int .i64 at', .int .i64 va] 59)
          have hI2 := HI.out.below hbA
          have hbx2 : (wr.alloc (.cells #[.slice dA nd dc, .int .i64 at', .int .i64 va] 59)).heap[wr.heap.size]? = some (.cells #[.slice dA nd dc, .int .i64 at', .int .i64 va] 59 (0, 0)) := al_new rfl
          have HX := Aside0.mk (And.intro hbA (And.intro hI2 hbx2))
          obtain ⟨xb, hxb⟩ : ∃ xb, xb = wr.heap.size := ⟨_, rfl⟩
          have HXB := Aside0.mk hxb
          clear hbA hI2 hbx2 hxb
          go_wp2_with (first
            | (go_at_call 38; refine (HSH.out _ nd (by omega)).mono ?_; rintro e w3 ⟨u, rfl, hu, hb3⟩
               obtain ⟨An, cn, rfl, hrn, hcn, hcn0, _⟩ := own_form hu
               have hI3 := HX.out.2.1.below hb3
               have hbx3 := (hb3.block _ (blk_lt HX.out.2.2)).trans HX.out.2.2)
            | (at_builtin; refine wpList_append_bytes rfl _ _ (by rfl) (by rfl) (by rfl) hI3.own hrn hcn0 (by have := sh_length_le 2 nd (by omega); have := HTK.out.2; have := sh_length_le 2 n (by omega); rw [List.length_append, List.length_append]; simp only [List.length_singleton]; omega) (hI3.be.size) ?_; intro v' w4 ho4 hg4 hat4
               have hI4 := hI3.app ho4 hg4
               have hbx4 := hI3.box hg4 hbx3 (by decide)
               have y0 : w4.cell? ⟨wr.heap.size, 0, none⟩ = some (.slice dA nd dc) := (blk_cell hbx4 0).trans rfl
               have y1 : w4.cell? ⟨wr.heap.size, 1, none⟩ = some (.int .i64 at') := (blk_cell hbx4 1).trans rfl
               have y2 : w4.cell? ⟨wr.heap.size, 2, none⟩ = some (.int .i64 va) := (blk_cell hbx4 2).trans rfl)
            | fail)
          obtain ⟨O, hO⟩ : ∃ O, O = ([1] ++ sh n) ++ (r.fs.take j).flatMap factB := ⟨_, rfl⟩
          rw [← hO] at hI4
          have HO := Aside0.mk hO
          have hOl : O.length ≤ 4000 := by
            rw [hO, List.length_append, List.length_append]
            have := sh_length_le 2 n (by omega)
            have := HTK.out.2
            simp only [List.length_singleton]
            omega
          have HOL := Aside0.mk hOl
          have HQ0 : Aside0 (WrI w (O ++ sh nd ++ (ds.take 0).flatMap dimB) v' w4 ∧ w4.heap[wr.heap.size]? = some (.cells #[.slice dA nd dc, .int .i64 at', .int .i64 va] 59 (0, 0))) := ⟨by simpa using hI4, hbx4⟩
          clear hO hOl hI4 hbx4 hI3 hbx3 ho4 hg4 hat4 hb3 hu hrn hcn hcn0 y0 y1 y2 x0 x1 x2
          rw [← HXB.out] at HQ0 ⊢
          go_loopw [4, 45] (fun ov i wq => ∃ (t : Nat), i = .int .i64 t ∧ t ≤ nd ∧ Aside0 (WrI w (O ++ sh nd ++ (ds.take t).flatMap dimB) ov wq ∧ wq.heap[xb]? = some (.cells #[.slice dA nd dc, .int .i64 at', .int .i64 va] 59 (0, 0)))) (fun _ i _ => nd - (intOf i).toNat)
          case atStart => exact ⟨0, rfl, by omega, HQ0⟩
          case round =>
            clear HQ0
            obtain ⟨t, rfl, ht, HQ⟩ := hrel
            by_cases htl : t < nd
            · have u1 : decide (t < nd) = true := decide_eq_true htl
              have htd : t < ds.length := by rw [← HND.out]; exact htl
              obtain ⟨ad, hA, hcell⟩ := rds_at (HRD.out.1.k.below HQ.out.1.be) htd
              have hA : dA = some ad := hA
              have hcell : wr.cell? (ad.add t) = some (.string ds[t]) := hcell
              have hsz := HRD.out.2.2.1 _ (List.getElem_mem htd)
              have htk2 := take_flat (f := dimB) htd
              have hln2 := flat_take_le (f := dimB) (n := 34) ds t (fun s hs => dimB_len (HRD.out.2.2.1 s hs))
              rw [← HND.out] at hln2
              have HT2 := Aside0.mk (And.intro htk2 hln2)
              clear htk2 hln2
              generalize ds[t] = dt at *
              subst hA
              have HTX2 := Aside0.mk (fun W : World => HTX.out W dt (by omega))
              have hdl := dimB_len hsz
              clear htd hsz
              go_wp2_with (first
                | (go_at_call 39; refine (HTX2.out _).mono ?_; rintro e w5 ⟨u, rfl, hu, hb5⟩
                   obtain ⟨An, cn, rfl, hrn, hcn, hcn0, _⟩ := own_form hu
                   have hI5 := HQ.out.1.below hb5
                   have hbx5 := (hb5.block _ (blk_lt HQ.out.2)).trans HQ.out.2)
                | (at_builtin; refine wpList_append_bytes rfl _ _ (by rfl) (by rfl) (by rfl) hI5.own hrn hcn0 (by have := sh_length_le 2 nd (by omega); have := HT2.out.2; have := HOL.out; rw [List.length_append, List.length_append]; omega) (hI5.be.size) ?_; intro v' w6 ho6 hg6 hat6
                   have hI6 := hI5.app ho6 hg6
                   have hbx6 := hI5.box hg6 hbx5 (by decide))
                | fail)
              go_roundw
              case rel => exact ⟨t + 1, by go_num, by omega, ⟨by rw [HT2.out.1, ← List.append_assoc]; exact hI6, hbx6⟩⟩
              case measure => simp [intOf]; omega
            · obtain rfl : t = nd := by omega
              have u1 : decide (t < t) = false := decide_eq_false htl
              have hI5 := HQ.out.1
              rw [List.take_of_length_le (by rw [← HND.out]; exact Nat.le_refl _)] at hI5
              have y1 : wr.cell? ⟨xb, 1, none⟩ = some (.int .i64 at') := (blk_cell HQ.out.2 1).trans rfl
              have y2 : wr.cell? ⟨xb, 2, none⟩ = some (.int .i64 va) := (blk_cell HQ.out.2 2).trans rfl
              have hF5 : FxI w (O ++ sh t ++ ds.flatMap dimB) _ xb #[.slice dA t dc, .int .i64 at', .int .i64 va] wr := ⟨hI5, HQ.out.2⟩
              have HF5 := Aside0.mk hF5
              obtain ⟨ka, hka⟩ : ∃ k, k = numB at' := ⟨_, rfl⟩
              obtain ⟨kv, hkv⟩ : ∃ k, k = numB va := ⟨_, rfl⟩
              have HNA := Aside0.mk (fun W : World => num_row (w := W) (by have := HRD.out.2.2.2; omega) hka)
              have HNV := Aside0.mk (fun W : World => num_row (w := W) HRD.out.1.vi hkv)
              have HKL := Aside0.mk (show 8 = ka.length ∧ 8 = kv.length from ⟨by rw [hka, numB_len], by rw [hkv, numB_len]⟩)
              have HKE := Aside0.mk (And.intro hka hkv)
              obtain ⟨L5, hL5⟩ : ∃ l, l = O ++ sh t ++ ds.flatMap dimB := ⟨_, rfl⟩
              have HL5E := Aside0.mk hL5
              rw [← hL5] at HF5
              have hl5 : (O ++ sh t ++ ds.flatMap dimB).length ≤ 5000 := by
                have := sh_length_le 2 t (by omega)
                have h9 := flat_le (f := dimB) (n := 34) ds (fun s hs => dimB_len (HRD.out.2.2.1 s hs))
                have := HOL.out
                rw [← HND.out] at h9
                rw [List.length_append, List.length_append]
                omega
              have HL5 := Aside0.mk hl5
              rw [← hL5] at HL5
              clear hI5 hF5 hl5 hka hkv hL5
              go_wp2_with fail
              go_region_held3 (fun w' => w'.cell? ⟨xb, 1, none⟩ = some (.int .i64 at') ∧ w'.cell? ⟨xb, 2, none⟩ = some (.int .i64 va)) (first | exact ⟨by assumption, by assumption⟩ | (trace_state; fail)) (first
                | (go_at_call 37
                   have _h8 := HF8.out
                   refine (HNV.out _).mono ?_
                   rintro e w9 ⟨A9, c9, rfl, hr9, hz9, hb9⟩
                   have HF9 := Aside0.mk ((HF8.out.below (by (repeat' (first | with_reducible exact Below.refl _ _ | with_reducible assumption | with_reducible apply bdrew | with_reducible apply bdrewN | with_reducible apply balloc | with_reducible refine bset ?_ (Nat.le_refl _))))).below hb9)
                   have HR9 := Aside0.mk (And.intro hr9 hz9)
                   have z5 : w9.cell? ⟨xb, 1, none⟩ = some (.int .i64 at') := (HF9.out.cell 1).trans rfl
                   have z6 : w9.cell? ⟨xb, 2, none⟩ = some (.int .i64 va) := (HF9.out.cell 2).trans rfl
                   clear hr9 hz9 hb9)
                | (go_at_call 37
                   refine (HNA.out _).mono ?_
                   rintro e w7 ⟨A7, c7, rfl, hr7, hz7, hb7⟩
                   have HF7 := Aside0.mk ((HF5.out.below (by (repeat' (first | with_reducible exact Below.refl _ _ | with_reducible assumption | with_reducible apply bdrew | with_reducible apply bdrewN | with_reducible apply balloc | with_reducible refine bset ?_ (Nat.le_refl _))))).below hb7)
                   have HR7 := Aside0.mk (And.intro hr7 hz7)
                   have z1 : w7.cell? ⟨xb, 1, none⟩ = some (.int .i64 at') := (HF7.out.cell 1).trans rfl
                   have z2 : w7.cell? ⟨xb, 2, none⟩ = some (.int .i64 va) := (HF7.out.cell 2).trans rfl
                   clear hr7 hz7 hb7)
                | (refine step_app_n rfl (.tmp 54) (.tmp 57) (by rfl) (by rfl) (by rfl) HKL.out.1 (HF7.out.below (by (repeat' (first | with_reducible exact Below.refl _ _ | with_reducible assumption | with_reducible apply bdrew | with_reducible apply bdrewN | with_reducible apply balloc | with_reducible refine bset ?_ (Nat.le_refl _))))).wr.own (HR7.out.1.below (by (repeat' (first | with_reducible exact Below.refl _ _ | with_reducible assumption | with_reducible apply bdrew | with_reducible apply bdrewN | with_reducible apply balloc | with_reducible refine bset ?_ (Nat.le_refl _))))) HR7.out.2 (by rw [← HKL.out.1]; have := HL5.out; omega) (HF7.out.below (by (repeat' (first | with_reducible exact Below.refl _ _ | with_reducible assumption | with_reducible apply bdrew | with_reducible apply bdrewN | with_reducible apply balloc | with_reducible refine bset ?_ (Nat.le_refl _))))).wr.be.size ?_
                   intro v8 w8 ho8 hg8 hat8
                   have HF8 := Aside0.mk ((HF7.out.below (by (repeat' (first | with_reducible exact Below.refl _ _ | with_reducible assumption | with_reducible apply bdrew | with_reducible apply bdrewN | with_reducible apply balloc | with_reducible refine bset ?_ (Nat.le_refl _))))).app ho8 hg8)
                   have z3 : w8.cell? ⟨xb, 1, none⟩ = some (.int .i64 at') := (HF8.out.cell 1).trans rfl
                   have z4 : w8.cell? ⟨xb, 2, none⟩ = some (.int .i64 va) := (HF8.out.cell 2).trans rfl
                   clear ho8 hg8 hat8)
                | (refine step_app_n rfl (.tmp 58) (.tmp 61) (by rfl) (by rfl) (by rfl) HKL.out.2 (HF9.out.below (by (repeat' (first | with_reducible exact Below.refl _ _ | with_reducible assumption | with_reducible apply bdrew | with_reducible apply bdrewN | with_reducible apply balloc | with_reducible refine bset ?_ (Nat.le_refl _))))).wr.own (HR9.out.1.below (by (repeat' (first | with_reducible exact Below.refl _ _ | with_reducible assumption | with_reducible apply bdrew | with_reducible apply bdrewN | with_reducible apply balloc | with_reducible refine bset ?_ (Nat.le_refl _))))) HR9.out.2 (by rw [List.length_append, ← HKL.out.1, ← HKL.out.2]; have := HL5.out; omega) (HF9.out.below (by (repeat' (first | with_reducible exact Below.refl _ _ | with_reducible assumption | with_reducible apply bdrew | with_reducible apply bdrewN | with_reducible apply balloc | with_reducible refine bset ?_ (Nat.le_refl _))))).wr.be.size ?_
                   intro v10 w10 ho10 hg10 hat10
                   have HF10 := Aside0.mk ((HF9.out.below (by (repeat' (first | with_reducible exact Below.refl _ _ | with_reducible assumption | with_reducible apply bdrew | with_reducible apply bdrewN | with_reducible apply balloc | with_reducible refine bset ?_ (Nat.le_refl _))))).app ho10 hg10)
                   have z7 : w10.cell? ⟨xb, 1, none⟩ = some (.int .i64 at') := (HF10.out.cell 1).trans rfl
                   have z8 : w10.cell? ⟨xb, 2, none⟩ = some (.int .i64 va) := (HF10.out.cell 2).trans rfl
                   clear ho10 hg10 hat10)
                | fail)
              all_goals
                go_wp2_with fail
                go_roundw
                have hw10 := HF10.out.wr
                have hfin : L5 ++ ka ++ kv = ([1] ++ sh n) ++ (r.fs.take (j + 1)).flatMap factB := by
                  rw [HTK.out.1, HL5E.out, HKE.out.1, HKE.out.2, HO.out]
                  unfold factB
                  simp only [← HND.out, List.append_assoc]
                rw [hfin] at hw10
                case rel => exact ⟨j + 1, by go_num, by omega, ⟨hw10⟩⟩
                case measure => simp [intOf]; omega
        · obtain rfl : j = n := by omega
          have t1 : decide (j < j) = false := decide_eq_false hlt
          go_wp2_with fail
          go_ret2
          have h9 := HI.out.own
          rw [List.take_of_length_le (by rw [HMY.out.2, ← HNN.out]; exact Nat.le_refl _)] at h9
          refine ⟨fun h => (by cases h), fun _ => ⟨_, rfl, ?_⟩, HI.out.be⟩
          rw [HREC.out]
          exact h9
end Go.Proofs.YtnmiipcoojijiaaDoor.Top
