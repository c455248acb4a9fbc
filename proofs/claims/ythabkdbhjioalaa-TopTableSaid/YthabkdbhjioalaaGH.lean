/-
  What the short functions on bytes tell (numbers of four and of eight bytes, short numbers, fronts), and contracts of those that append; conditions: those that each theorem states.
-/
import Derived.Test.YthabkdbhjioalaaGF
import Derived.Test.YthabkdbhjioalaaEvs
import Derived.Laws.OwnMore
import Derived.Deep.Slices
import Derived.Test.YthabkdbhjioalaaGG
import Derived.Laws.BitsAllLaws
import Derived.Laws.Slices
namespace Go.Proofs.Ythabkdbhjioalaa.Top
set_option linter.unusedSimpArgs false
set_option linter.unusedVariables false
open Go.RowKit Go.Proofs.YthabkdbhjioalaaW.PrintWords Go.Proofs.YthabkdbhjioalaaW.PrintLast Go.Proofs.YthabkdbhjioalaaW.PrintMore Go.Proofs.Ythabkdbhjioalaa.Plain Go.Proofs.Ythabkdbhjioalaa.Fns
/-- What a call has appended to an own row of bytes. -/
def AppTo (w : World) (B : Nat) (v : Value) (r : List Int) (e : Ending) (w' : World) : Prop :=
  ∃ v', e = .returned v' ∧ w'.ownsRow B 5 1 v' r.length (nums .u8 r) ∧ w.grownBy w' v.ownBlock ∧ ∀ k, v'.ownBlock = some k → v.ownBlock = some k ∨ w.heap.size ≤ k
/-- A world's front. -/
def cutW (w : World) (B : Nat) : World := { w with heap := w.heap.extract 0 B }
theorem cutW_size {w : World} {B : Nat} (h : B ≤ w.heap.size) : (cutW w B).heap.size = B := by simp [cutW, h]
theorem cutW_below {w : World} {B : Nat} (h : B ≤ w.heap.size) : Below (cutW w B).heap.size (cutW w B) w :=
  ⟨rfl, rfl, rfl, by rw [cutW_size h]; exact h, fun k hk => by
    rw [cutW_size h] at hk
    simp [cutW, Array.getElem?_extract, hk]
    omega⟩
theorem app_of {w w' : World} {B : Nat} {v : Value} {r : List Int} {e : Ending} (hB : B ≤ w.heap.size)
    (h : ∃ v0_ : Value, e = .returned (v0_) ∧ Kd.R (Kd.int .u8) 5 w' (cutW w B).heap.size (fun k_ => (v.ownBlock = some k_ ∨ w.heap.size ≤ k_)) v0_ r ∧ Below (cutW w B).heap.size (cutW w B) w' ∧ Kept w w' (fun k_ => v.ownBlock = some k_)) : AppTo w B v r e w' := by
  obtain ⟨v0, rfl, hR, hb, hk⟩ := h
  rw [cutW_size hB] at hR
  refine ⟨v0, rfl, Kd.own_of_R hR, ⟨hb.os, hb.tape, hb.output, hk.1, fun k hlt hne => hk.2 k hlt (fun e => hne e.symm)⟩, fun k hk' => hR.1 k hk'⟩
theorem R_own {w : World} {B : Nat} {v : Value} {l : List Int} (hB : B ≤ w.heap.size) (ho : w.ownsRow B 5 1 v l.length (nums .u8 l)) : Kd.R (Kd.int .u8) 5 w (cutW w B).heap.size (fun k_ => v.ownBlock = some k_) v l := by
  rw [cutW_size hB]
  exact Kd.R_of_own ho (fun k hk => hk)
theorem nil_own (w : World) (B : Nat) : w.ownsRow B 5 1 (.slice none 0 0) ([] : List Int).length (nums .u8 []) := World.ownsRow_nil _ _ _ _
/-- Four bytes, the least first. -/
def fourB (x : Int) : List Int := [x % 256, (x / 256) % 256, (x / 65536) % 256, (x / 16777216) % 256]
theorem four_c {w : World} {B : Nat} {v : Value} {l : List Int} {x : Int} (hB : B ≤ w.heap.size) (ho : w.ownsRow B 5 1 v l.length (nums .u8 l)) (hl : l.length < 1000000000) : Calls Try.prog 69 #[v, .int .u32 x] w (AppTo w B v (l ++ fourB x)) := by
  refine (Lib.crc_four.calls (fun k => v.ownBlock = some k) v l x (l ++ fourB x) (cutW w B) w (cutW_below hB) (R_own hB ho) ?_).mono fun e w' h => app_of hB h
  unfold Lib.crc_four.f
  show (if l.length + 4 < 140737488355328 then some (l ++ fourB x) else none) = _
  rw [if_pos (by omega)]
theorem eight_l0 (u : Nat) (hu : u < 9223372036854775808) : ∀ (j : Nat) (acc : List Int) (k : Nat), j ≤ 8 → acc.length + j < 1000000000 → j < k → Lib.table_eight.l0 k acc (u : Int) (8 * (j : Int) - 8) = some (acc ++ numb u j) := by
  intro j
  induction j with
  | zero =>
    intro acc k _ _ hk
    obtain ⟨m, rfl⟩ : ∃ m, k = m + 1 := ⟨k - 1, by omega⟩
    simp only [Lib.table_eight.l0]
    rw [if_neg (by omega)]
    simp [numb]
  | succ j ih =>
    intro acc k h8 hl hk
    obtain ⟨m, rfl⟩ : ∃ m, k = m + 1 := ⟨k - 1, by omega⟩
    simp only [Lib.table_eight.l0]
    have e : 8 * ((j + 1 : Nat) : Int) - 8 = ((8 * j : Nat) : Int) := by omega
    rw [e, if_pos (by omega), if_pos (by omega), if_pos (by omega), w64 (by omega) (by omega)]
    have hs : shr .i64 (u : Int) ((8 * j : Nat) : Int) % 256 = ((u / 2 ^ (8 * j) % 256 : Nat) : Int) := by
      unfold shr
      rw [Int.toNat_natCast, show IntKind.bits .i64 = 64 from rfl, Nat.min_eq_left (by omega), Int.natCast_emod, Int.natCast_ediv, Int.natCast_pow]
      rfl
    rw [hs, show ((8 * j : Nat) : Int) - 8 = 8 * (j : Int) - 8 by omega, ih _ m (by omega) (by simp; omega) (by omega)]
    simp [numb]
theorem aeight_l0 (u : Nat) : ∀ (j : Nat) (acc : List Int) (k : Nat), j ≤ 8 → acc.length + j < 1000000000 → j < k → Lib.agg_eight.l0 k acc (u : Int) (8 * (j : Int) - 8) = some (acc ++ numb u j) := by
  intro j
  induction j with
  | zero =>
    intro acc k _ _ hk
    obtain ⟨m, rfl⟩ : ∃ m, k = m + 1 := ⟨k - 1, by omega⟩
    simp only [Lib.agg_eight.l0]
    rw [if_neg (by omega)]
    simp [numb]
  | succ j ih =>
    intro acc k h8 hl hk
    obtain ⟨m, rfl⟩ : ∃ m, k = m + 1 := ⟨k - 1, by omega⟩
    simp only [Lib.agg_eight.l0]
    have e : 8 * ((j + 1 : Nat) : Int) - 8 = ((8 * j : Nat) : Int) := by omega
    rw [e, if_pos (by omega), if_pos (by omega), if_pos (by omega), w64 (by omega) (by omega)]
    have hs : shr .u64 (u : Int) ((8 * j : Nat) : Int) % 256 = ((u / 2 ^ (8 * j) % 256 : Nat) : Int) := by
      unfold shr
      rw [Int.toNat_natCast, show IntKind.bits .u64 = 64 from rfl, Nat.min_eq_left (by omega), Int.natCast_emod, Int.natCast_ediv, Int.natCast_pow]
      rfl
    rw [hs, show ((8 * j : Nat) : Int) - 8 = 8 * (j : Int) - 8 by omega, ih _ m (by omega) (by simp; omega) (by omega)]
    simp [numb]
theorem eight_c {w : World} {B : Nat} {v : Value} {l : List Int} {u : Nat} (hu : u < 9223372036854775808) (hB : B ≤ w.heap.size) (ho : w.ownsRow B 5 1 v l.length (nums .u8 l)) (hl : l.length < 100000000) : Calls Try.prog 32 #[v, .int .i64 u] w (AppTo w B v (l ++ numb u 8)) :=
  (Lib.table_eight.calls 9 (fun k => v.ownBlock = some k) v l u (l ++ numb u 8) (cutW w B) w (cutW_below hB) (R_own hB ho) (by
    unfold Lib.table_eight.f
    exact eight_l0 u hu 8 l 9 (by omega) (by omega) (by omega))).mono fun e w' h => app_of hB h
theorem aeight_c {w : World} {B : Nat} {v : Value} {l : List Int} {u : Nat} (hB : B ≤ w.heap.size) (ho : w.ownsRow B 5 1 v l.length (nums .u8 l)) (hl : l.length < 100000000) : Calls Try.prog 52 #[v, .int .u64 u] w (AppTo w B v (l ++ numb u 8)) :=
  (Lib.agg_eight.calls 9 (fun k => v.ownBlock = some k) v l u (l ++ numb u 8) (cutW w B) w (cutW_below hB) (R_own hB ho) (by
    unfold Lib.agg_eight.f
    exact aeight_l0 u 8 l 9 (by omega) (by omega) (by omega))).mono fun e w' h => app_of hB h
/-- A short number's bytes, fresh. -/
theorem short_c {w : World} {u : Nat} (hu : u < 18446744073709551616) : Calls Try.prog 56 #[.int .u64 u] w fun e w' => ∃ v, e = .returned v ∧ w'.ownsRow w.heap.size 5 1 v (sh u).length (nums .u8 (sh u)) ∧ Below w.heap.size w w' := by
  obtain ⟨k, hk⟩ := ev_short hu
  exact (Lib.code_Short.calls k u (sh u) w (hk k (Nat.le_refl _))).mono fun e w' ⟨v, he, hR, hb⟩ => ⟨v, he, Kd.own_of_R hR, hb⟩
/-- A short number is read. -/
theorem readShort_c {w : World} {A : Option Addr} {c : Nat} {u : Nat} {more : List Int} (hu : u < 1000000) (hr : RdB w A (sh u ++ more)) (hm : Byt more) (hl : more.length < 1000000000) (hc : (sh u ++ more).length ≤ c) :
    Calls Try.prog 79 #[.slice A (sh u ++ more).length c] w fun e w' => e = .returned (.tuple #[.int .u64 u, .int .i64 (sh u).length, .int .i64 0]) ∧ Drawn0 w w' := by
  have hlt : u < 128 ^ (2 + 1) := Nat.lt_of_lt_of_le hu (by decide)
  have h3 := sh_length_le 2 u hlt
  have hb : Byt (sh u ++ more) := fun x hx => by
    rcases List.mem_append.1 hx with hx | hx
    · exact sh_byt u x hx
    · exact hm x hx
  obtain ⟨k, hk⟩ := ev_readShort hb (by rw [List.length_append]; omega)
  have hv := rsh_sh more 2 0 u 0 hlt (by omega) (fun h => by omega) (by omega)
  simp only [Nat.mul_zero, Nat.zero_add, Nat.pow_zero, Int.zero_add] at hv
  have hk' := hk k (Nat.le_refl _)
  rw [hv] at hk'
  have := Lib.code_ReadShort.calls k A c (sh u ++ more) _ _ _ w hr hc hk'
  refine this.mono fun e w' ⟨he, hd⟩ => ⟨?_, hd⟩
  rw [he]
  simp
/-- How long the front is that both have. -/
def comF : List Int → List Int → Nat
  | a :: x, b :: y => if a = b then comF x y + 1 else 0
  | _, _ => 0
theorem comF_le : ∀ (a b : List Int), comF a b ≤ a.length ∧ comF a b ≤ b.length
  | a :: x, b :: y => by
    have := comF_le x y
    unfold comF
    split <;> simp <;> omega
  | [], _ => by simp [comF]
  | _ :: _, [] => by simp [comF]
theorem comF_take : ∀ (a b : List Int), a.take (comF a b) = b.take (comF a b)
  | a :: x, b :: y => by
    unfold comF
    split
    · rename_i h
      rw [h, List.take_succ_cons, List.take_succ_cons, comF_take x y]
    · rfl
  | [], _ => by simp [comF]
  | _ :: _, [] => by simp [comF]
theorem common_l0 (l m : List Int) (hl : l.length < 1000000000) : ∀ (d i k : Nat), l.length - i = d → i ≤ l.length → i ≤ m.length → d < k → Lib.block_Common.l0 k l m (i : Int) = some ((i + comF (l.drop i) (m.drop i) : Nat) : Int) := by
  intro d
  induction d with
  | zero =>
    intro i k hd h1 h2 hk
    obtain ⟨n, rfl⟩ : ∃ n, k = n + 1 := ⟨k - 1, by omega⟩
    simp only [Lib.block_Common.l0]
    rw [if_neg (by omega), List.drop_of_length_le (by omega)]
    simp [comF]
  | succ d ih =>
    intro i k hd h1 h2 hk
    obtain ⟨n, rfl⟩ : ∃ n, k = n + 1 := ⟨k - 1, by omega⟩
    simp only [Lib.block_Common.l0]
    rw [if_pos (by omega)]
    by_cases hm : i < m.length
    · rw [if_pos (by omega), if_pos (by omega)]
      have e1 : rd l (i : Int) = l[i]'(by omega) := by
        unfold rd
        rw [Int.toNat_natCast, List.getD_eq_getElem?_getD, List.getElem?_eq_getElem (by omega)]
        rfl
      have e2 : rd m (i : Int) = m[i] := by
        unfold rd
        rw [Int.toNat_natCast, List.getD_eq_getElem?_getD, List.getElem?_eq_getElem hm]
        rfl
      rw [e1, e2, List.drop_eq_getElem_cons (by omega : i < l.length), List.drop_eq_getElem_cons hm]
      unfold comF
      by_cases he : l[i]'(by omega) = m[i]
      · rw [if_pos he, if_pos he, w64 (by omega) (by omega), show ((i : Int) + 1) = ((i + 1 : Nat) : Int) by omega, ih (i + 1) n (by omega) (by omega) (by omega) (by omega)]
        congr 2
        omega
      · rw [if_neg he, if_neg he]
        simp
    · rw [if_neg (by omega), List.drop_of_length_le (by omega : m.length ≤ i)]
      have : comF (l.drop i) [] = 0 := by cases l.drop i <;> rfl
      rw [this]
      rfl
theorem common_c {w : World} {A B : Option Addr} {c d : Nat} {l m : List Int} (h : RdB w A l) (hc : l.length ≤ c) (h' : RdB w B m) (hd : m.length ≤ d) (hl : l.length < 1000000000) :
    Calls Try.prog 55 #[.slice A l.length c, .slice B m.length d] w fun e w' => e = .returned (.int .i64 (comF l m : Nat)) ∧ Drawn0 w w' := by
  refine Lib.block_Common.calls (l.length + 1) A c l B d m _ w h hc h' hd ?_
  unfold Lib.block_Common.f
  have := common_l0 l m hl l.length 0 (l.length + 1) (by omega) (by omega) (by omega) (by omega)
  simpa using this
theorem info_u8 : (Try.prog.info? 5).map (fun i => (i.zero, i.size, i.bytes)) = some (some (.int .u8 0), 1, 1) := by kernel_rfl
theorem rd_news {w : World} {a : Addr} {k : List Int} (h : RdB w (some a) k) : ∀ j u, (nums .u8 k)[j]? = some u → w.cell? (a.add j) = some u := fun j u hu => by
  have hj : j < k.length := by
    have := (List.getElem?_eq_some_iff.1 hu).1
    simpa [nums] using this
  obtain ⟨ad, hA, hc⟩ := Kd.at_int h (j : Int) (by omega) (by omega)
  cases hA
  rw [Int.toNat_natCast] at hc
  rw [hc, ← hu]
  unfold rd nums
  rw [Int.toNat_natCast, List.getElem?_map, List.getElem?_eq_getElem hj, List.getD_eq_getElem?_getD, List.getElem?_eq_getElem hj]
  rfl
theorem run_append_bytes {w : World} {B : Nat} {v : Value} {l k : List Int} {A : Option Addr} {c : Nat} (ty : TypeId) (hown : w.ownsRow B 5 1 v l.length (nums .u8 l)) (hk : RdB w A k) (hc0 : A = none → c = 0) (hl : l.length + k.length < 1000000000) (hB : B ≤ w.heap.size) :
    ∃ v' w', (Builtin.append_ #[23, 23] ty #[v, .slice A k.length c]).run Try.prog w = .ok v' w' ∧ w'.ownsRow B 5 1 v' (l ++ k).length (nums .u8 (l ++ k)) ∧ w.grownBy w' v.ownBlock ∧ (v'.ownBlock = v.ownBlock ∨ v'.ownBlock = some w.heap.size) := by
  cases A with
  | none =>
    have hk0 : k = [] := by
      rcases Nat.eq_zero_or_pos k.length with h | h
      · exact List.eq_nil_of_length_eq_zero h
      · obtain ⟨a, e⟩ := hk.some h
        cases e
    subst hk0
    rw [hc0 rfl]
    obtain ⟨i0, hi, hzz⟩ := Option.map_eq_some_iff.1 info_u8
    exact ⟨v, w, run_append_owned_none (P := Try.prog) w B 23 ty 5 i0 1 Try.underlying23 hi v l.length _ hown, by rw [List.append_nil]; exact hown, ⟨rfl, rfl, rfl, Nat.le_refl _, fun _ _ _ => rfl⟩, .inl rfl⟩
  | some a =>
    obtain ⟨i0, hi, hzz⟩ := Option.map_eq_some_iff.1 info_u8
    simp only [Prod.mk.injEq] at hzz
    obtain ⟨hz0, hz1, hz2⟩ := hzz
    obtain ⟨v', w', h1, h2, h3, _, h5⟩ := run_append_own_at (P := Try.prog) w B 23 ty 5 i0 (.int .u8 0) 1 1 Try.underlying23 hi hz0 hz1 hz2 rfl (by decide) v l.length (nums .u8 l) hown a k.length c (nums .u8 k) (by simp [nums]) (rd_news hk)
      (fun u hu => by (simp [nums] at hu; obtain ⟨x, _, rfl⟩ := hu; rfl)) (by simp only [maxLen]; omega) (by omega) hB
    exact ⟨v', w', h1, by rw [List.length_append, nums_append]; exact h2, h3, h5⟩
theorem wpList_append_bytes {ops : Array Oper} {rest : List Oper} {o : Oper} {a : Act} {w : World} {Q : Exit → Act → World → Prop} (hgd : o.guard = none) (s x : Operand)
    (ho : o.op = .call { callee := .builtin .append, args := #[s, x], argTypes := #[23, 23] }) {B : Nat} {v : Value} {l k : List Int} {A : Option Addr} {c : Nat} (hs : a.eval s = v) (hx : a.eval x = .slice A k.length c)
    (hown : w.ownsRow B 5 1 v l.length (nums .u8 l)) (hk : RdB w A k) (hc0 : A = none → c = 0) (hl : l.length + k.length < 1000000000) (hB : B ≤ w.heap.size)
    (h : ∀ v' w', w'.ownsRow B 5 1 v' (l ++ k).length (nums .u8 (l ++ k)) → w.grownBy w' v.ownBlock → (v'.ownBlock = v.ownBlock ∨ v'.ownBlock = some w.heap.size) → wpList Try.prog ops Q rest (a.put o.dst v') w') : wpList Try.prog ops Q (o :: rest) a w := by
  refine wpList_plain hgd fun K hK => ?_
  obtain ⟨v', w', hr, h2, h3, h4⟩ := run_append_bytes o.type hown hk hc0 hl hB
  unfold Oper.wp execOp
  simp only [ho, resolve, invoke, builtin, Sem.run_bind, Sem.run_pure, Result.andThen_ok, List.map_toArray, List.map_cons, List.map_nil, hs, hx, hr]
  exact hK _ _ (h v' w' h2 h3 h4)
/-- The same at a step of a region that draws. -/
theorem step_append_bytes {ops : Array Oper} {o : Oper} {a : Act} {w : World} {K : Act → World → Prop} {Q : Exit → Act → World → Prop} {E : Prop} (hgd : o.guard = none) (s x : Operand)
    (ho : o.op = .call { callee := .builtin .append, args := #[s, x], argTypes := #[23, 23] }) {B : Nat} {v : Value} {l k : List Int} {A : Option Addr} {c : Nat} (hs : a.eval s = v) (hx : a.eval x = .slice A k.length c)
    (hown : w.ownsRow B 5 1 v l.length (nums .u8 l)) (hk : RdB w A k) (hc0 : A = none → c = 0) (hl : l.length + k.length < 1000000000) (hB : B ≤ w.heap.size)
    (h : ∀ v' w', w'.ownsRow B 5 1 v' (l ++ k).length (nums .u8 (l ++ k)) → w.grownBy w' v.ownBlock → (v'.ownBlock = v.ownBlock ∨ v'.ownBlock = some w.heap.size) → K (a.put o.dst v') w') : if Region.wanted o (yielded ops a.tmps) = true then Oper.wp Try.prog o a w K Q else E := by
  have hw : Region.wanted o (yielded ops a.tmps) = true := by simp [Region.wanted, hgd]
  rw [if_pos hw]
  obtain ⟨v', w', hr, h2, h3, h4⟩ := run_append_bytes o.type hown hk hc0 hl hB
  unfold Oper.wp execOp
  simp only [ho, resolve, invoke, builtin, Sem.run_bind, Sem.run_pure, Result.andThen_ok, List.map_toArray, List.map_cons, List.map_nil, hs, hx, hr]
  exact h v' w' h2 h3 h4
/-- What an own row is, as a value that is read. -/
theorem own_form {w : World} {B : Nat} {v : Value} {l : List Int} (h : w.ownsRow B 5 1 v l.length (nums .u8 l)) : ∃ A c, v = .slice A l.length c ∧ RdB w A l ∧ l.length ≤ c ∧ (A = none → c = 0) ∧ ∀ a, A = some a → v.ownBlock = some a.block := by
  obtain ⟨A, c, rfl, hr, hl⟩ := own_rdb h
  refine ⟨A, c, rfl, hr, hl, fun e => ?_, fun a e => ?_⟩
  · subst e
    rcases h.2 with ⟨h1, _⟩ | ⟨g, cap, cur, h1, _⟩
    · simp at h1
      exact h1.2
    · simp at h1
  · subst e
    rcases h.2 with ⟨h1, _⟩ | ⟨g, cap, cur, h1, _⟩
    · simp at h1
    · simp at h1
      rw [h1.1]
      rfl
/-- A readable row stays where the block that was written is another. -/
theorem rdb_grown {w w' : World} {A : Option Addr} {k : List Int} {row : Option Nat} (h : RdB w A k) (hg : w.grownBy w' row) (hne : ∀ a, A = some a → some a.block ≠ row) : RdB w' A k :=
  ⟨h.1, h.2.1, fun hn => by
    obtain ⟨ad, e, hc⟩ := h.2.2 hn
    refine ⟨ad, e, fun j p hj => ?_⟩
    obtain ⟨c, hs, hr, hcell⟩ := hc j p hj
    refine ⟨c, hs, hr, fun i u hu => hg.cell (hcell i u hu) ?_⟩
    have : (ad.add (j * (Kd.int .u8).sz + i)).block = ad.block := by unfold Addr.add; split <;> rfl
    rw [this]
    exact hne ad e⟩
theorem rdb_lt {w : World} {a : Addr} {k : List Int} (h : RdB w (some a) k) (h0 : 0 < k.length) : a.block < w.heap.size := by
  obtain ⟨ad, hA, hc⟩ := Kd.at_int h 0 (by omega) (by omega)
  cases hA
  have := World.block_lt_of_cell? w _ hc
  simpa [Addr.add] using this
/-- A row from a place on. -/
theorem rdb_drop {w : World} {a : Addr} {k : List Int} (h : RdB w (some a) k) (i : Nat) : RdB w (some (a.add i)) (k.drop i) :=
  ⟨rfl, by have := h.2.1; rw [List.length_drop]; omega, fun hn => ⟨_, rfl, fun j p hj => by
    rw [List.length_drop] at hn
    obtain ⟨ad, e, hc⟩ := h.2.2 (by omega)
    cases e
    rw [List.getElem?_drop] at hj
    obtain ⟨c, hs, hr, hcell⟩ := hc (i + j) p hj
    refine ⟨c, hs, hr, fun q u hu => ?_⟩
    have hsz : (Kd.int IntKind.u8).sz = 1 := rfl
    have := hcell q u hu
    rw [hsz] at this ⊢
    rw [Go.Deep.add_add]
    rw [← this]
    congr 2
    omega⟩⟩
/-- A row's front. -/
theorem rdb_take {w : World} {A : Option Addr} {k : List Int} (h : RdB w A k) (n : Nat) : RdB w A (k.take n) :=
  ⟨rfl, by have := h.2.1; rw [List.length_take]; omega, fun hn => by
    rw [List.length_take] at hn
    obtain ⟨ad, e, hc⟩ := h.2.2 (by omega)
    refine ⟨ad, e, fun j p hj => ?_⟩
    have hj' := (List.getElem?_eq_some_iff.1 hj).1
    rw [List.length_take] at hj'
    rw [List.getElem?_take_of_lt (by omega)] at hj
    exact hc j p hj⟩
def frontF (d : List Int) : List Int := fourB d.length ++ d
/-- A frame's bytes. -/
def frameF (d : List Int) : List Int := frontF d ++ fourB (moreF 0 (frontF d))
theorem fourB_len (x : Int) : (fourB x).length = 4 := rfl
theorem fourB_byt (x : Int) : Byt (fourB x) := fun y hy => by
  simp only [fourB, List.mem_cons, List.not_mem_nil, or_false] at hy
  omega
theorem byt_app {k l : List Int} (h : Byt k) (h' : Byt l) : Byt (k ++ l) := fun x hx => by
  rcases List.mem_append.1 hx with hx | hx
  · exact h x hx
  · exact h' x hx
theorem frontF_len (d : List Int) : (frontF d).length = d.length + 4 := by simp [frontF, fourB_len]; omega
theorem frameF_len (d : List Int) : (frameF d).length = d.length + 8 := by simp [frameF, frontF_len, fourB_len]
theorem frontF_byt {d : List Int} (h : Byt d) : Byt (frontF d) := byt_app (fourB_byt _) h
theorem frameF_byt {d : List Int} (h : Byt d) : Byt (frameF d) := byt_app (frontF_byt h) (fourB_byt _)
theorem AppTo.below {w w' : World} {v : Value} {r : List Int} {B n : Nat} {xs : List Value} (hg : w.grownBy w' v.ownBlock) {w0 : World} (hb : Below B w0 w) (ho : w.ownsRow B 5 1 v n xs) (hB : B ≤ w.heap.size) : Below B w0 w' :=
  hb.grown hg hB (fun k hk => (ho.lt k hk).1)
set_option maxHeartbeats 1000000 in
set_option maxRecDepth 100000 in
theorem frame_c {w : World} {A : Option Addr} {c : Nat} {d : List Int} (hd : RdB w A d) (hc0 : A = none → c = 0) (hc : d.length ≤ c) (hb : Byt d) (hl : d.length ≤ 65535) :
    Calls Try.prog 57 #[.slice A d.length c] w fun e w' => ∃ v, e = .returned (.tuple #[v, .int .i64 0]) ∧ w'.ownsRow w.heap.size 5 1 v (frameF d).length (nums .u8 (frameF d)) ∧ Below w.heap.size w w' := by
  have t1 : decide ((65535 : Int) < (d.length : Int)) = false := decide_eq_false (by omega)
  have t2 : (d.length : Int) % 4294967296 = (d.length : Int) := by omega
  have HD := Aside0.mk hd
  have HB := Aside0.mk hb
  have hfour := four_c (w := w) (B := w.heap.size) (v := .slice none 0 0) (l := []) (x := d.length) (Nat.le_refl _) (nil_own _ _) (by simp)
  rw [List.nil_append] at hfour
  clear hd hb
  go_enter Try.func57, Try.ntmps57
  go_wp2_with fail
  refine hfour.mono ?_
  rintro e w2 ⟨v1, rfl, ho1, hg1, hat1⟩
  have hB1 : Below w.heap.size w w2 := (Below.refl _ w).grown hg1 (Nat.le_refl _) (fun k hk => by simp [Value.ownBlock] at hk)
  have hd2 := HD.out.below hB1
  have hs1 := hB1.size
  clear hfour hg1
  go_wp2_with (at_builtin; refine wpList_append_bytes rfl _ _ rfl rfl rfl ho1 hd2 hc0 (by rw [fourB_len]; omega) hB1.size ?_; intro v2 w3 ho2 hg2 hat2)
  have hB2 := AppTo.below (r := []) hg2 hB1 ho1 hs1
  have hs2 := hB2.size
  have e2 : fourB (d.length : Int) ++ d = frontF d := rfl
  rw [e2] at ho2
  obtain ⟨A2, c2, rfl, hr2, hc2, hn2, hb2⟩ := own_form ho2
  have hsum := crc_sum_c hr2 (by rw [frontF_len]; omega) (frontF_byt HB.out) (c := c2)
  have hfour := four_c (w := w3) (B := w.heap.size) (x := moreF 0 (frontF d)) hs2 ho2 (by rw [frontF_len]; omega)
  clear ho1 hd2 hg2 hat1 hat2 hr2
  go_wp2_with (first
    | (go_at_call 64; refine hsum.mono ?_; rintro e w4 ⟨rfl, rfl⟩)
    | (go_at_call 69; refine hfour.mono ?_; rintro e w5 ⟨v3, rfl, ho3, hg3, hat3⟩))
  go_ret2
  exact ⟨v3, rfl, ho3, AppTo.below (r := []) hg3 hB2 ho2 hs2⟩
/-- A frame is put behind others. -/
theorem framed_c {w : World} {B : Nat} {v : Value} {l : List Int} {A : Option Addr} {c : Nat} {d : List Int} (hB : B ≤ w.heap.size) (ho : w.ownsRow B 5 1 v l.length (nums .u8 l)) (hd : RdB w A d) (hc0 : A = none → c = 0) (hc : d.length ≤ c) (hb : Byt d) (hl : d.length ≤ 65535) (hll : l.length < 100000000) :
    Calls Try.prog 34 #[v, .slice A d.length c] w (AppTo w B v (l ++ frameF d)) := by
  have hfr := frame_c hd hc0 hc hb hl
  have HO := Aside0.mk ho
  clear hd ho
  go_enter Try.func34, Try.ntmps34
  go_wp2_with fail
  refine hfr.mono ?_
  rintro e w2 ⟨v1, rfl, ho1, hB1⟩
  obtain ⟨A1, c1, rfl, hr1, hc1, hn1, hb1⟩ := own_form ho1
  have ho2 := own_below HO.out hB1
  have hs1 := hB1.size
  have hs2 : B ≤ w2.heap.size := Nat.le_trans hB hs1
  go_wp2_with (at_builtin; refine wpList_append_bytes rfl _ _ rfl rfl rfl ho2 hr1 hn1 (by rw [frameF_len]; omega) hs2 ?_; intro v2 w3 ho3 hg3 hat3)
  go_ret
  refine ⟨v2, rfl, ho3, ⟨hg3.os.trans hB1.os, hg3.tape.trans hB1.tape, hg3.output.trans hB1.output, Nat.le_trans hB1.size hg3.size, fun k hk hne => (hg3.block k (Nat.lt_of_lt_of_le hk hB1.size) hne).trans (hB1.block k hk)⟩, fun k hk => ?_⟩
  rcases hat3 with h | h
  · exact .inl (h ▸ hk)
  · rw [h] at hk
    cases hk
    exact .inr hs1
theorem or_u32 (v m : Nat) (hv : v < 4294967296) (hm : m < 4294967296) : Go.bits .or .u32 (v : Int) (m : Int) = ((v ||| m : Nat) : Int) := by
  have h : v ||| m < 2 ^ 32 := Nat.or_lt_two_pow hv hm
  show IntKind.u32.wrap ((((BitVec.ofInt 32 (v : Int)) ||| (BitVec.ofInt 32 (m : Int))).toNat : Nat) : Int) = _
  rw [BitVec.ofInt_natCast, BitVec.ofInt_natCast, BitVec.toNat_or, BitVec.toNat_ofNat, BitVec.toNat_ofNat]
  rw [Nat.mod_eq_of_lt (show v < 2 ^ 32 from hv), Nat.mod_eq_of_lt (show m < 2 ^ 32 from hm), IntKind.wrap_u32]
  omega
theorem or_part (v a i : Nat) (hv : v < 2 ^ i) (hv2 : v < 4294967296) (h : a * 2 ^ i < 4294967296) : Go.bits .or .u32 (v : Int) ((a * 2 ^ i : Nat) : Int) = ((v + a * 2 ^ i : Nat) : Int) := by
  rw [or_u32 v _ hv2 h, Nat.or_comm, Nat.mul_comm a, ← Nat.two_pow_add_eq_or_of_lt hv a, Nat.add_comm]
theorem four_sum (b0 b1 b2 b3 : Nat) (h0 : b0 < 256) (h1 : b1 < 256) (h2 : b2 < 256) (h3 : b3 < 256) :
    Go.bits .or .u32 (Go.bits .or .u32 (Go.bits .or .u32 ((b0 : Int) % 4294967296) ((((b1 : Int) % 4294967296) * 256) % 4294967296)) ((((b2 : Int) % 4294967296) * 65536) % 4294967296)) ((((b3 : Int) % 4294967296) * 16777216) % 4294967296) = ((b0 + b1 * 256 + b2 * 65536 + b3 * 16777216 : Nat) : Int) := by
  have e1 := or_part b0 b1 8 (by omega) (by omega) (by omega)
  have e2 := or_part (b0 + b1 * 2 ^ 8) b2 16 (by omega) (by omega) (by omega)
  have e3 := or_part (b0 + b1 * 2 ^ 8 + b2 * 2 ^ 16) b3 24 (by omega) (by omega) (by omega)
  have a0 : (b0 : Int) % 4294967296 = (b0 : Int) := by omega
  have a1 : ((b1 : Int) % 4294967296) * 256 % 4294967296 = ((b1 * 2 ^ 8 : Nat) : Int) := by omega
  have a2 : ((b2 : Int) % 4294967296) * 65536 % 4294967296 = ((b2 * 2 ^ 16 : Nat) : Int) := by omega
  have a3 : ((b3 : Int) % 4294967296) * 16777216 % 4294967296 = ((b3 * 2 ^ 24 : Nat) : Int) := by omega
  rw [a0, a1, a2, a3, e1, e2, e3]
theorem four_nat (x : Nat) : fourB (x : Int) = [((x % 256 : Nat) : Int), ((x / 256 % 256 : Nat) : Int), ((x / 65536 % 256 : Nat) : Int), ((x / 16777216 % 256 : Nat) : Int)] := by
  unfold fourB
  simp
theorem four_val (x : Nat) (hx : x < 4294967296) : x % 256 + x / 256 % 256 * 256 + x / 65536 % 256 * 65536 + x / 16777216 % 256 * 16777216 = x := by omega
theorem number_list (b0 b1 b2 b3 : Nat) (h0 : b0 < 256) (h1 : b1 < 256) (h2 : b2 < 256) (h3 : b3 < 256) (more : List Int) : Lib.crc_number.f ((b0 : Int) :: (b1 : Int) :: (b2 : Int) :: (b3 : Int) :: more) = some ((b0 + b1 * 256 + b2 * 65536 + b3 * 16777216 : Nat) : Int) := by
  unfold Lib.crc_number.f
  have hl : ((b0 : Int) :: (b1 : Int) :: (b2 : Int) :: (b3 : Int) :: more).length = more.length + 4 := by simp
  have e0 : rd ((b0 : Int) :: (b1 : Int) :: (b2 : Int) :: (b3 : Int) :: more) 0 = (b0 : Int) := by simp [rd]
  have e1 : rd ((b0 : Int) :: (b1 : Int) :: (b2 : Int) :: (b3 : Int) :: more) 1 = (b1 : Int) := by simp [rd]
  have e2 : rd ((b0 : Int) :: (b1 : Int) :: (b2 : Int) :: (b3 : Int) :: more) 2 = (b2 : Int) := by simp [rd]
  have e3 : rd ((b0 : Int) :: (b1 : Int) :: (b2 : Int) :: (b3 : Int) :: more) 3 = (b3 : Int) := by simp [rd]
  rw [if_pos (by omega), if_pos (by omega), if_pos (by omega), if_pos (by omega), e0, e1, e2, e3, four_sum b0 b1 b2 b3 h0 h1 h2 h3]
theorem number_four {x : Nat} (hx : x < 4294967296) (more : List Int) : Lib.crc_number.f (fourB x ++ more) = some (x : Int) := by
  have h := number_list (x % 256) (x / 256 % 256) (x / 65536 % 256) (x / 16777216 % 256) (by omega) (by omega) (by omega) (by omega) more
  rw [four_val x hx] at h
  rw [four_nat]
  exact h
theorem number_c {w : World} {A : Option Addr} {c n x : Nat} {more : List Int} (hx : x < 4294967296) (h : RdB w A (fourB x ++ more)) (hn : n = (fourB (x : Int) ++ more).length) (hc : n ≤ c) :
    Calls Try.prog 78 #[.slice A n c] w fun e w' => e = .returned (.int .u32 x) ∧ Drawn0 w w' := by
  subst hn
  exact Lib.crc_number.calls A c _ _ w h hc (number_four hx more)
theorem rdb_nil_at (W : World) (A : Option Addr) (h : A ≠ none) : RdB W A [] := ⟨rfl, by simp, fun h => absurd h (Nat.lt_irrefl 0)⟩
theorem elem_u8 : Try.prog.elem 23 = 5 := by simp [Program.elem, Try.underlying23]
theorem under_u8 : Try.prog.underlying 23 = some (.slice (Try.prog.elem 23)) := by rw [elem_u8]; exact Try.underlying23
theorem size_u8 (W : World) : (sizeOf (Try.prog.elem 23)).run Try.prog W = .ok 1 W := by
  obtain ⟨i0, hi, hzz⟩ := Option.map_eq_some_iff.1 info_u8
  simp only [Prod.mk.injEq] at hzz
  rw [elem_u8]
  simp [sizeOf, typeInfo, hi, hzz.2.1, Result.andThen]
/-- Where a row that is cut begins. -/
def cutA (a : Addr) (i c : Nat) : Addr := if c = i then a else a.add i
theorem cutA_rd {W : World} {a : Addr} {i c : Nat} {l : List Int} (h : RdB W (some a) l) (hl : l.length ≤ c) : RdB W (some (cutA a i c)) (l.drop i) := by
  unfold cutA
  by_cases hc : c = i
  · rw [if_pos hc, List.drop_of_length_le (by omega)]
    exact rdb_nil_at W _ (by simp)
  · rw [if_neg hc]
    exact rdb_drop h i
theorem cut_lo (a : Addr) (n c i : Nat) (z : Int) (hz : z = (i : Int)) (hi : i ≤ n) (W : World) :
    (Instr.slice 23 (.slice (some a) n c) (some (.int .i64 z)) none none).run Try.prog W = .ok (.slice (some (cutA a i c)) (n - i) (c - i)) W := by
  subst hz
  rw [run_slice_l W 23 (some a) n c under_u8 .i64 (i : Int) (by omega) (by omega), size_u8]
  simp only [Result.andThen, sliced, Int.toNat_natCast, Nat.mul_one, cutA]
  by_cases hc : c = i
  · rw [if_pos hc, if_pos hc]
  · rw [if_neg hc, if_neg hc]
    rfl
theorem cut_hi (a : Addr) (n c j : Nat) (z : Int) (hz : z = (j : Int)) (hj : j ≤ c) (W : World) :
    (Instr.slice 23 (.slice (some a) n c) none (some (.int .i64 z)) none).run Try.prog W = .ok (.slice (some a) j c) W := by
  subst hz
  rw [run_slice_h W 23 (some a) n c under_u8 .i64 (j : Int) (by omega) (by omega), size_u8]
  simp only [Result.andThen, sliced, Int.toNat_natCast, Nat.mul_one, Nat.sub_zero]
  by_cases hc : c = 0
  · rw [if_pos hc]
  · rw [if_neg hc]
    simp [Addr.add]
theorem cut_lh (a : Addr) (n c i j : Nat) (z y : Int) (hz : z = (i : Int)) (hy : y = (j : Int)) (hij : i ≤ j) (hj : j ≤ c) (W : World) :
    (Instr.slice 23 (.slice (some a) n c) (some (.int .i64 z)) (some (.int .i64 y)) none).run Try.prog W = .ok (.slice (some (cutA a i c)) (j - i) (c - i)) W := by
  subst hz
  subst hy
  rw [run_slice_lh W 23 (some a) n c under_u8 .i64 .i64 (i : Int) (j : Int) (by omega) (by omega) (by omega), size_u8]
  simp only [Result.andThen, sliced, Int.toNat_natCast, Nat.mul_one, cutA]
  by_cases hc : c = i
  · rw [if_pos hc, if_pos hc]
  · rw [if_neg hc, if_neg hc]
    rfl
end Go.Proofs.Ythabkdbhjioalaa.Top
