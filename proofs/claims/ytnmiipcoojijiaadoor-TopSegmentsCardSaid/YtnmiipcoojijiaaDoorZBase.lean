/-
  Facts on memory that other walks stand on; conditions: those that each theorem states.
-/
import Derived.Test.YtnmiipcoojijiaaDoorLib2
import Derived.Test.YtnmiipcoojijiaaDoorPlain
import Derived.Test.YtnmiipcoojijiaaDoorEvs
import Derived.Test.YtnmiipcoojijiaaDoorZRange
import Derived.Laws.Externs
import Derived.Lib.BytesEntry
import Derived.Lib.LazyBuf
import Derived.Maps.AppendAt
import Derived.Maps.OwnIn
import Derived.Laws.OwnMore
import Derived.Deep.Slices
import Derived.Laws.Slices
import Derived.WalkMore
import Derived.Laws.ResultCell
import Derived.Deep.DeepCutAuto
import Derived.OrdersIn
import Derived.OrdersHeld
import Derived.Deep.RegionHeld3
import Derived.BigRegion
import Derived.BigQuiet
import Derived.Deep.RegionWith
import Derived.Deep.LoopGhost
import Derived.Sort.LoopGhostIn
namespace Go.Proofs.YtnmiipcoojijiaaDoor.Top
set_option linter.unusedSimpArgs false
set_option linter.unusedVariables false
open Go.RowKit Go.Proofs.YtnmiipcoojijiaaDoorW.PrintWords Go.Proofs.YtnmiipcoojijiaaDoorW.PrintLast Go.Proofs.YtnmiipcoojijiaaDoorW.PrintMore Go.Proofs.YtnmiipcoojijiaaDoor.Plain Go.Proofs.YtnmiipcoojijiaaDoor.Fns
/-- A row of bytes that can be read. -/
def RdB (w : World) (A : Option Addr) (l : List Int) : Prop := (Kd.int .u8).C w A l.length l
theorem RdB.below {w w1 : World} {A : Option Addr} {l : List Int} (h : RdB w A l) (hb : Below w.heap.size w w1) : RdB w1 A l := Kd.C_below h hb
theorem RdB.nil (w : World) (A : Option Addr) : RdB w A [] := ⟨rfl, by simp, fun h => absurd h (Nat.lt_irrefl 0)⟩
theorem info5 : (Tryd.prog.info? 5).map (fun i => (i.zero, i.size, i.bytes)) = some (some (.int .u8 0), 1, 1) := by kernel_rfl
theorem slice_eqA (w : World) (a : Addr) (n c : Nat) : (binOp .eql 60 (.slice (some a) n c) (.slice none 0 0)).run Tryd.prog w = .ok (.bool false) w := run_eql_slice_nil w _ _ (some a) n c Tryd.underlying60
set_option maxRecDepth 100000 in
theorem clone_a {w : World} {a : Addr} {c : Nat} {k : List Int} (hk : RdB w (some a) k) (h1 : k.length ≤ 100000000) :
    Calls Tryd.prog 44 #[.slice (some a) k.length c] w fun e w' => ∃ v, e = .returned v ∧ w'.ownsRow w.heap.size 5 1 v k.length (nums .u8 k) ∧ Below w.heap.size w w' := by
  have hq := slice_eqA w a k.length c
  go_enter Tryd.func44, Tryd.ntmps44
  obtain ⟨i0, hi, hzz⟩ := Option.map_eq_some_iff.1 info5
  simp only [Prod.mk.injEq] at hzz
  obtain ⟨hz0, hz1, hz2⟩ := hzz
  have hold : (w.alloc (.cells #[] 5)).ownsRow w.heap.size 5 1 (.slice (some ⟨w.heap.size, 0, none⟩) 0 0) 0 [] := ⟨rfl, .inr ⟨_, 0, #[], rfl, Nat.le_refl _, heap_alloc_new _ _, Nat.le_refl _, by simp [maxLen], rfl, rfl⟩⟩
  have hnews : ∀ j u, (nums .u8 k)[j]? = some u → (w.alloc (.cells #[] 5)).cell? (a.add j) = some u := fun j u hu => by
    have hr : RdB (w.alloc (.cells #[] 5)) (some a) k := Kd.C_alloc hk _
    have hj : j < k.length := by
      have := (List.getElem?_eq_some_iff.1 hu).1
      simpa [nums] using this
    obtain ⟨ad, hA, hc⟩ := Kd.at_int hr (j : Int) (by omega) (by omega)
    cases hA
    rw [Int.toNat_natCast] at hc
    rw [hc, ← hu]
    unfold rd nums
    rw [Int.toNat_natCast, List.getElem?_map, List.getElem?_eq_getElem hj, List.getD_eq_getElem?_getD, List.getElem?_eq_getElem hj]
    rfl
  go_wp2_with (at_builtin; refine wpList_append_own_at _ rfl (.tmp 5) (.tmp 6) 60 rfl w.heap.size 5 i0 (.int .u8 0) 1 1 Tryd.underlying60 hi hz0 hz1 hz2 rfl (by decide) (.slice (some ⟨w.heap.size, 0, none⟩) 0 0) 0 [] rfl hold a k.length c (nums .u8 k) rfl (by simp [nums]) hnews (fun u hu => by (simp [nums] at hu; obtain ⟨x, _, rfl⟩ := hu; rfl)) (by simp only [maxLen]; omega) (by omega) (by simp [World.size_alloc]) ?_; intro v1 w1 hown hg hn hat)
  go_ret
  rw [Nat.zero_add, List.nil_append] at hown
  exact ⟨_, rfl, hown, ((Below.refl _ w).alloc (Nat.le_refl _) _).grown hg (by simp [World.size_alloc]) (fun b hb => by simp [Value.ownBlock] at hb; exact Nat.le_of_eq hb)⟩
theorem clone_c {w : World} {a : Addr} {c : Nat} {k : List Int} (hk : RdB w (some a) k) (h0 : 0 < k.length) (h1 : k.length ≤ 100000000) :
    Calls Tryd.prog 44 #[.slice (some a) k.length c] w fun e w' => ∃ v, e = .returned v ∧ w'.ownsRow w.heap.size 5 1 v k.length (nums .u8 k) ∧ Below w.heap.size w w' := clone_a hk h1
theorem al_new {W : World} {o : Obj} {k : Nat} (h : k = W.heap.size) : (W.alloc o).heap[k]? = some o := by
  subst h
  exact heap_alloc_new W o
theorem al_old {W : World} {o : Obj} {k : Nat} (h : W.heap[k]? = some o) (o' : Obj) : (W.alloc o').heap[k]? = some o := blk_alloc h _
theorem RdB.some {w : World} {A : Option Addr} {k : List Int} (h : RdB w A k) (h0 : 0 < k.length) : ∃ a, A = some a := by
  obtain ⟨ad, hA, _⟩ := Kd.at_int h 0 (by omega) (by omega)
  exact ⟨ad, hA⟩
theorem RdB.drewN {w : World} {A : Option Addr} {l : List Int} (h : RdB w A l) (n : Nat) : RdB (w.drewN n) A l := Kd.C_drewN h n
theorem own_low {w : World} {B B' : Nat} {e : TypeId} {size n : Nat} {v : Value} {xs : List Value} (h : w.ownsRow B' e size v n xs) (hB : B ≤ B') : w.ownsRow B e size v n xs := by
  refine ⟨h.1, ?_⟩
  rcases h.2 with h' | ⟨g, cap, cur, hv, hb, r⟩
  · exact .inl h'
  · exact .inr ⟨g, cap, cur, hv, Nat.le_trans hB hb, r⟩
theorem own_rdb {w : World} {base : Nat} {v : Value} {k : List Int} (h : w.ownsRow base 5 1 v k.length (nums .u8 k)) : ∃ A c, v = .slice A k.length c ∧ RdB w A k ∧ k.length ≤ c := by
  have hR : (Kd.int .u8).R 5 w base (fun _ => True) v k := Kd.R_of_own h (fun _ _ => trivial)
  obtain ⟨A, c, rfl, hl, hc⟩ := Kd.R_reads hR
  exact ⟨A, c, rfl, hc, hl⟩
theorem row_box {W w3 : World} {o : Obj} {base b n sz : Nat} {t e : TypeId} {u v : Value} {xs : List Value} (h : W.heap[b]? = some (.cells #[u] t (0, 0))) (hown : W.ownsRow base e sz v n xs) (hg : (W.alloc o).grownBy w3 v.ownBlock) (hne : t ≠ e := by decide) : w3.heap[b]? = some (.cells #[u] t (0, 0)) := by
  refine (hg.block b (by simp [World.size_alloc]; have := blk_lt h; omega) (fun hb => ?_)).trans (al_old h _)
  obtain ⟨cs, hc⟩ := own_typed hown b hb.symm
  rw [h] at hc
  simp only [Option.some.injEq, Obj.cells.injEq] at hc
  exact hne hc.2.1
theorem put_far {W : World} {l k : Nat} {o o' : Obj} {cs : Array Value} {t : TypeId} {fz : Nat × Nat} (hl : W.heap[l]? = some o) (ho : o.isCells = false) (hk : W.heap[k]? = some (.cells cs t fz)) : (W.putObj l o').heap[k]? = W.heap[k]? := World.putObj_heap_other fun e => by
  subst e
  rw [hl] at hk
  cases hk
  cases ho
theorem own_put {W : World} {l : Nat} {o o' : Obj} (hl : W.heap[l]? = some o) (ho : o.isCells = false) {base : Nat} {e : TypeId} {size n : Nat} {v : Value} {xs : List Value} (h : W.ownsRow base e size v n xs) : (W.putObj l o').ownsRow base e size v n xs := own_move h fun k hk => by
  obtain ⟨cs, hc⟩ := own_typed h k hk
  exact put_far hl ho hc
theorem put_size (W : World) (l : Nat) (o' : Obj) : (W.putObj l o').heap.size = W.heap.size := by simp [World.putObj]
theorem own_below {w w1 : World} {base : Nat} {e : TypeId} {size n : Nat} {v : Value} {xs : List Value} (h : w.ownsRow base e size v n xs) (hb : Below w.heap.size w w1) : w1.ownsRow base e size v n xs := own_move h fun k hk => by
  obtain ⟨cs, hc⟩ := own_typed h k hk
  exact hb.block k (blk_lt hc)
theorem own_read {w : World} {base c : Nat} {A : Option Addr} {k : List Int} (h : w.ownsRow base 5 1 (.slice A k.length c) k.length (nums .u8 k)) : RdB w A k := by
  obtain ⟨A', c', he, hr, _⟩ := own_rdb h
  cases he
  exact hr
theorem own_some {w : World} {base : Nat} {e : TypeId} {size n : Nat} {v : Value} {xs : List Value} (h : w.ownsRow base e size v (n + 1) xs) (h0 : 0 < n + 1) : ∃ g cap cur, v = .slice (some ⟨g, 0, none⟩) (n + 1) cap ∧ base ≤ g ∧ w.heap[g]? = some (.cells cur e (0, 0)) ∧ n + 1 ≤ cap ∧ cap ≤ maxLen ∧ cur.size = cap * size ∧ cur.toList.take ((n + 1) * size) = xs := by
  rcases h.2 with ⟨_, h⟩ | h
  · omega
  · exact h
theorem cell_of_box {w : World} {b : Nat} {t : TypeId} {v : Value} (h : w.heap[b]? = some (.cells #[v] t (0, 0))) : w.cell? ⟨b, 0, none⟩ = some v ∧ w.frozen? ⟨b, 0, none⟩ = false := ⟨(blk_cell h 0).trans rfl, blk_frozen h 0⟩
theorem cell_below {W W1 : World} {a : Addr} {u : Value} (hb : Below W.heap.size W W1) (h : W.cell? a = some u) : W1.cell? a = some u := by
  have := World.block_lt_of_cell? W a h
  rw [← h]
  unfold World.cell?
  rw [hb.block _ this]
/-- What a call has appended to an own row of bytes. -/
def AppTo (w : World) (B : Nat) (v : Value) (r : List Int) (e : Ending) (w' : World) : Prop :=
  ∃ v', e = .returned v' ∧ w'.ownsRow B 5 1 v' r.length (nums .u8 r) ∧ w.grownBy w' v.ownBlock ∧ ∀ k, v'.ownBlock = some k → v.ownBlock = some k ∨ w.heap.size ≤ k
/-- A world's front. -/
def cutW (w : World) (B : Nat) : World := { w with heap := w.heap.extract 0 B }
theorem cutW_size {w : World} {B : Nat} (h : B ≤ w.heap.size) : (cutW w B).heap.size = B := by simp [cutW, h]
theorem cutW_below {w : World} {B : Nat} (h : B ≤ w.heap.size) : Below (cutW w B).heap.size (cutW w B) w :=
  ⟨rfl, rfl, rfl, by rw [cutW_size h]; exact h, fun k hk => by
    rw [cutW_size h] at hk
    simp [cutW, Array.getElem?_extract, hk]
    omega⟩
theorem app_of {w w' : World} {B : Nat} {v : Value} {r : List Int} {e : Ending} (hB : B ≤ w.heap.size)
    (h : ∃ v0_ : Value, e = .returned (v0_) ∧ Kd.R (Kd.int .u8) 5 w' (cutW w B).heap.size (fun k_ => (v.ownBlock = some k_ ∨ w.heap.size ≤ k_)) v0_ r ∧ Below (cutW w B).heap.size (cutW w B) w' ∧ Kept w w' (fun k_ => v.ownBlock = some k_)) : AppTo w B v r e w' := by
  obtain ⟨v0, rfl, hR, hb, hk⟩ := h
  rw [cutW_size hB] at hR
  refine ⟨v0, rfl, Kd.own_of_R hR, ⟨hb.os, hb.tape, hb.output, hk.1, fun k hlt hne => hk.2 k hlt (fun e => hne e.symm)⟩, fun k hk' => hR.1 k hk'⟩
theorem R_own {w : World} {B : Nat} {v : Value} {l : List Int} (hB : B ≤ w.heap.size) (ho : w.ownsRow B 5 1 v l.length (nums .u8 l)) : Kd.R (Kd.int .u8) 5 w (cutW w B).heap.size (fun k_ => v.ownBlock = some k_) v l := by
  rw [cutW_size hB]
  exact Kd.R_of_own ho (fun k hk => hk)
theorem nil_own (w : World) (B : Nat) : w.ownsRow B 5 1 (.slice none 0 0) ([] : List Int).length (nums .u8 []) := World.ownsRow_nil _ _ _ _
/-- Four bytes, the least first. -/
def fourB (x : Int) : List Int := [x % 256, (x / 256) % 256, (x / 65536) % 256, (x / 16777216) % 256]
theorem four_c {w : World} {B : Nat} {v : Value} {l : List Int} {x : Int} (hB : B ≤ w.heap.size) (ho : w.ownsRow B 5 1 v l.length (nums .u8 l)) (hl : l.length < 1000000000) : Calls Tryd.prog 40 #[v, .int .u32 x] w (AppTo w B v (l ++ fourB x)) := by
  refine (Lib.crc_four.calls (fun k => v.ownBlock = some k) v l x (l ++ fourB x) (cutW w B) w (cutW_below hB) (R_own hB ho) ?_).mono fun e w' h => app_of hB h
  unfold Lib.crc_four.f
  show (if l.length + 4 < 140737488355328 then some (l ++ fourB x) else none) = _
  rw [if_pos (by omega)]
/-- A short number's bytes, fresh. -/
theorem short_c {w : World} {u : Nat} (hu : u < 18446744073709551616) : Calls Tryd.prog 38 #[.int .u64 u] w fun e w' => ∃ v, e = .returned v ∧ w'.ownsRow w.heap.size 5 1 v (sh u).length (nums .u8 (sh u)) ∧ Below w.heap.size w w' := by
  obtain ⟨k, hk⟩ := ev_short hu
  exact (Lib.code_Short.calls k u (sh u) w (hk k (Nat.le_refl _))).mono fun e w' ⟨v, he, hR, hb⟩ => ⟨v, he, Kd.own_of_R hR, hb⟩
/-- A short number is read. -/
theorem readShort_c {w : World} {A : Option Addr} {c : Nat} {u : Nat} {more : List Int} (hu : u < 1000000) (hr : RdB w A (sh u ++ more)) (hm : Byt more) (hl : more.length < 1000000000) (hc : (sh u ++ more).length ≤ c) :
    Calls Tryd.prog 47 #[.slice A (sh u ++ more).length c] w fun e w' => e = .returned (.tuple #[.int .u64 u, .int .i64 (sh u).length, .int .i64 0]) ∧ Drawn0 w w' := by
  have hlt : u < 128 ^ (2 + 1) := Nat.lt_of_lt_of_le hu (by decide)
  have h3 := sh_length_le 2 u hlt
  have hb : Byt (sh u ++ more) := fun x hx => by
    rcases List.mem_append.1 hx with hx | hx
    · exact sh_byt u x hx
    · exact hm x hx
  obtain ⟨k, hk⟩ := ev_readShort hb (by rw [List.length_append]; omega)
  have hv := rsh_sh more 2 0 u 0 hlt (by omega) (fun h => by omega) (by omega)
  simp only [Nat.mul_zero, Nat.zero_add, Nat.pow_zero, Int.zero_add] at hv
  have hk' := hk k (Nat.le_refl _)
  rw [hv] at hk'
  have := Lib.code_ReadShort.calls k A c (sh u ++ more) _ _ _ w hr hc hk'
  refine this.mono fun e w' ⟨he, hd⟩ => ⟨?_, hd⟩
  rw [he]
  simp
end Go.Proofs.YtnmiipcoojijiaaDoor.Top
