/-
  Bytes put behind an own row of bytes; a row cut; conditions: those that each theorem states.
-/
import Derived.Test.YtnmiipcoojijiaaDoorZBase
import Derived.Laws.OwnMore
import Derived.Deep.Slices
import Derived.Deep.LoopGhost
import Derived.Laws.Closers25b
namespace Go.Proofs.YtnmiipcoojijiaaDoor.Top
set_option linter.unusedSimpArgs false
set_option linter.unusedVariables false
open Go.RowKit Go.Proofs.YtnmiipcoojijiaaDoorW.PrintWords Go.Proofs.YtnmiipcoojijiaaDoorW.PrintLast Go.Proofs.YtnmiipcoojijiaaDoorW.PrintMore Go.Proofs.YtnmiipcoojijiaaDoor.Plain Go.Proofs.YtnmiipcoojijiaaDoor.Fns
theorem info_u8 : (Tryd.prog.info? 5).map (fun i => (i.zero, i.size, i.bytes)) = some (some (.int .u8 0), 1, 1) := by kernel_rfl
theorem rd_news {w : World} {a : Addr} {k : List Int} (h : RdB w (some a) k) : ∀ j u, (nums .u8 k)[j]? = some u → w.cell? (a.add j) = some u := fun j u hu => by
  have hj : j < k.length := by
    have := (List.getElem?_eq_some_iff.1 hu).1
    simpa [nums] using this
  obtain ⟨ad, hA, hc⟩ := Kd.at_int h (j : Int) (by omega) (by omega)
  cases hA
  rw [Int.toNat_natCast] at hc
  rw [hc, ← hu]
  unfold rd nums
  rw [Int.toNat_natCast, List.getElem?_map, List.getElem?_eq_getElem hj, List.getD_eq_getElem?_getD, List.getElem?_eq_getElem hj]
  rfl
theorem run_append_bytes {w : World} {B : Nat} {v : Value} {l k : List Int} {A : Option Addr} {c : Nat} (ty : TypeId) (hown : w.ownsRow B 5 1 v l.length (nums .u8 l)) (hk : RdB w A k) (hc0 : A = none → c = 0) (hl : l.length + k.length < 1000000000) (hB : B ≤ w.heap.size) :
    ∃ v' w', (Builtin.append_ #[60, 60] ty #[v, .slice A k.length c]).run Tryd.prog w = .ok v' w' ∧ w'.ownsRow B 5 1 v' (l ++ k).length (nums .u8 (l ++ k)) ∧ w.grownBy w' v.ownBlock ∧ (v'.ownBlock = v.ownBlock ∨ v'.ownBlock = some w.heap.size) := by
  cases A with
  | none =>
    have hk0 : k = [] := by
      rcases Nat.eq_zero_or_pos k.length with h | h
      · exact List.eq_nil_of_length_eq_zero h
      · obtain ⟨a, e⟩ := hk.some h
        cases e
    subst hk0
    rw [hc0 rfl]
    obtain ⟨i0, hi, hzz⟩ := Option.map_eq_some_iff.1 info_u8
    exact ⟨v, w, run_append_owned_none (P := Tryd.prog) w B 60 ty 5 i0 1 Tryd.underlying60 hi v l.length _ hown, by rw [List.append_nil]; exact hown, ⟨rfl, rfl, rfl, Nat.le_refl _, fun _ _ _ => rfl⟩, .inl rfl⟩
  | some a =>
    obtain ⟨i0, hi, hzz⟩ := Option.map_eq_some_iff.1 info_u8
    simp only [Prod.mk.injEq] at hzz
    obtain ⟨hz0, hz1, hz2⟩ := hzz
    obtain ⟨v', w', h1, h2, h3, _, h5⟩ := run_append_own_at (P := Tryd.prog) w B 60 ty 5 i0 (.int .u8 0) 1 1 Tryd.underlying60 hi hz0 hz1 hz2 rfl (by decide) v l.length (nums .u8 l) hown a k.length c (nums .u8 k) (by simp [nums]) (rd_news hk)
      (fun u hu => by (simp [nums] at hu; obtain ⟨x, _, rfl⟩ := hu; rfl)) (by simp only [maxLen]; omega) (by omega) hB
    exact ⟨v', w', h1, by rw [List.length_append, nums_append]; exact h2, h3, h5⟩
theorem wpList_append_bytes {ops : Array Oper} {rest : List Oper} {o : Oper} {a : Act} {w : World} {Q : Exit → Act → World → Prop} (hgd : o.guard = none) (s x : Operand)
    (ho : o.op = .call { callee := .builtin .append, args := #[s, x], argTypes := #[60, 60] }) {B : Nat} {v : Value} {l k : List Int} {A : Option Addr} {c : Nat} (hs : a.eval s = v) (hx : a.eval x = .slice A k.length c)
    (hown : w.ownsRow B 5 1 v l.length (nums .u8 l)) (hk : RdB w A k) (hc0 : A = none → c = 0) (hl : l.length + k.length < 1000000000) (hB : B ≤ w.heap.size)
    (h : ∀ v' w', w'.ownsRow B 5 1 v' (l ++ k).length (nums .u8 (l ++ k)) → w.grownBy w' v.ownBlock → (v'.ownBlock = v.ownBlock ∨ v'.ownBlock = some w.heap.size) → wpList Tryd.prog ops Q rest (a.put o.dst v') w') : wpList Tryd.prog ops Q (o :: rest) a w := by
  refine wpList_plain hgd fun K hK => ?_
  obtain ⟨v', w', hr, h2, h3, h4⟩ := run_append_bytes o.type hown hk hc0 hl hB
  unfold Oper.wp execOp
  simp only [ho, resolve, invoke, builtin, Sem.run_bind, Sem.run_pure, Result.andThen_ok, List.map_toArray, List.map_cons, List.map_nil, hs, hx, hr]
  exact hK _ _ (h v' w' h2 h3 h4)
/-- The same at a step of a region that draws. -/
theorem step_append_bytes {ops : Array Oper} {o : Oper} {a : Act} {w : World} {K : Act → World → Prop} {Q : Exit → Act → World → Prop} {E : Prop} (hgd : o.guard = none) (s x : Operand)
    (ho : o.op = .call { callee := .builtin .append, args := #[s, x], argTypes := #[60, 60] }) {B : Nat} {v : Value} {l k : List Int} {A : Option Addr} {c : Nat} (hs : a.eval s = v) (hx : a.eval x = .slice A k.length c)
    (hown : w.ownsRow B 5 1 v l.length (nums .u8 l)) (hk : RdB w A k) (hc0 : A = none → c = 0) (hl : l.length + k.length < 1000000000) (hB : B ≤ w.heap.size)
    (h : ∀ v' w', w'.ownsRow B 5 1 v' (l ++ k).length (nums .u8 (l ++ k)) → w.grownBy w' v.ownBlock → (v'.ownBlock = v.ownBlock ∨ v'.ownBlock = some w.heap.size) → K (a.put o.dst v') w') : if Region.wanted o (yielded ops a.tmps) = true then Oper.wp Tryd.prog o a w K Q else E := by
  have hw : Region.wanted o (yielded ops a.tmps) = true := by simp [Region.wanted, hgd]
  rw [if_pos hw]
  obtain ⟨v', w', hr, h2, h3, h4⟩ := run_append_bytes o.type hown hk hc0 hl hB
  unfold Oper.wp execOp
  simp only [ho, resolve, invoke, builtin, Sem.run_bind, Sem.run_pure, Result.andThen_ok, List.map_toArray, List.map_cons, List.map_nil, hs, hx, hr]
  exact h v' w' h2 h3 h4
/-- What an own row is, as a value that is read. -/
theorem own_form {w : World} {B : Nat} {v : Value} {l : List Int} (h : w.ownsRow B 5 1 v l.length (nums .u8 l)) : ∃ A c, v = .slice A l.length c ∧ RdB w A l ∧ l.length ≤ c ∧ (A = none → c = 0) ∧ ∀ a, A = some a → v.ownBlock = some a.block := by
  obtain ⟨A, c, rfl, hr, hl⟩ := own_rdb h
  refine ⟨A, c, rfl, hr, hl, fun e => ?_, fun a e => ?_⟩
  · subst e
    rcases h.2 with ⟨h1, _⟩ | ⟨g, cap, cur, h1, _⟩
    · simp at h1
      exact h1.2
    · simp at h1
  · subst e
    rcases h.2 with ⟨h1, _⟩ | ⟨g, cap, cur, h1, _⟩
    · simp at h1
    · simp at h1
      rw [h1.1]
      rfl
/-- A readable row stays where the block that was written is another. -/
theorem rdb_grown {w w' : World} {A : Option Addr} {k : List Int} {row : Option Nat} (h : RdB w A k) (hg : w.grownBy w' row) (hne : ∀ a, A = some a → some a.block ≠ row) : RdB w' A k :=
  ⟨h.1, h.2.1, fun hn => by
    obtain ⟨ad, e, hc⟩ := h.2.2 hn
    refine ⟨ad, e, fun j p hj => ?_⟩
    obtain ⟨c, hs, hr, hcell⟩ := hc j p hj
    refine ⟨c, hs, hr, fun i u hu => hg.cell (hcell i u hu) ?_⟩
    have : (ad.add (j * (Kd.int .u8).sz + i)).block = ad.block := by unfold Addr.add; split <;> rfl
    rw [this]
    exact hne ad e⟩
theorem rdb_lt {w : World} {a : Addr} {k : List Int} (h : RdB w (some a) k) (h0 : 0 < k.length) : a.block < w.heap.size := by
  obtain ⟨ad, hA, hc⟩ := Kd.at_int h 0 (by omega) (by omega)
  cases hA
  have := World.block_lt_of_cell? w _ hc
  simpa [Addr.add] using this
/-- A row from a place on. -/
theorem rdb_drop {w : World} {a : Addr} {k : List Int} (h : RdB w (some a) k) (i : Nat) : RdB w (some (a.add i)) (k.drop i) :=
  ⟨rfl, by have := h.2.1; rw [List.length_drop]; omega, fun hn => ⟨_, rfl, fun j p hj => by
    rw [List.length_drop] at hn
    obtain ⟨ad, e, hc⟩ := h.2.2 (by omega)
    cases e
    rw [List.getElem?_drop] at hj
    obtain ⟨c, hs, hr, hcell⟩ := hc (i + j) p hj
    refine ⟨c, hs, hr, fun q u hu => ?_⟩
    have hsz : (Kd.int IntKind.u8).sz = 1 := rfl
    have := hcell q u hu
    rw [hsz] at this ⊢
    rw [Go.Deep.add_add]
    rw [← this]
    congr 2
    omega⟩⟩
/-- A row's front. -/
theorem rdb_take {w : World} {A : Option Addr} {k : List Int} (h : RdB w A k) (n : Nat) : RdB w A (k.take n) :=
  ⟨rfl, by have := h.2.1; rw [List.length_take]; omega, fun hn => by
    rw [List.length_take] at hn
    obtain ⟨ad, e, hc⟩ := h.2.2 (by omega)
    refine ⟨ad, e, fun j p hj => ?_⟩
    have hj' := (List.getElem?_eq_some_iff.1 hj).1
    rw [List.length_take] at hj'
    rw [List.getElem?_take_of_lt (by omega)] at hj
    exact hc j p hj⟩
end Go.Proofs.YtnmiipcoojijiaaDoor.Top
namespace Go.Proofs.YtnmiipcoojijiaaDoor.Top
set_option linter.unusedSimpArgs false
set_option linter.unusedVariables false
open Go.RowKit Go.Proofs.YtnmiipcoojijiaaDoorW.PrintWords Go.Proofs.YtnmiipcoojijiaaDoorW.PrintLast Go.Proofs.YtnmiipcoojijiaaDoorW.PrintMore Go.Proofs.YtnmiipcoojijiaaDoor.Plain
/-- One digit, eight digits, one byte, a row. -/
def bitF (c : Int) : Int := if (bits .and .u32 c 1 == 1) = true then bits .xor .u32 (c / 2) 2197175160 else c / 2
def bitN : Nat → Int → Int
  | 0, c => c
  | n + 1, c => bitF (bitN n c)
def byteF (c x : Int) : Int := bitN 8 (bits .xor .u32 c x)
def moreF (s : Int) (l : List Int) : Int := bits .xor .u32 IntKind.u32.max (l.foldl byteF (bits .xor .u32 IntKind.u32.max s))
theorem xor_rng (a b : Int) : 0 ≤ bits .xor .u32 a b ∧ bits .xor .u32 a b < 4294967296 := ⟨bits_lo_u32 _ a b, by have := bits_hi_u32 .xor a b; omega⟩
theorem bitF_rng {c : Int} (h : 0 ≤ c ∧ c < 4294967296) : 0 ≤ bitF c ∧ bitF c < 4294967296 := by
  unfold bitF
  split
  · exact xor_rng _ _
  · omega
theorem moreF_rng (s : Int) (l : List Int) : 0 ≤ moreF s l ∧ moreF s l < 4294967296 := xor_rng _ _
set_option maxHeartbeats 1000000 in
set_option maxRecDepth 100000 in
theorem crc_more_c {w : World} {A : Option Addr} {c : Nat} {l : List Int} {s : Int} (hs : 0 ≤ s ∧ s < 4294967296) (h : RdB w A l) (hl : l.length ≤ 1000000) (hb : Byt l) :
    Calls Tryd.prog 56 #[.int .u32 s, .slice A l.length c] w fun e w' => e = .returned (.int .u32 (moreF s l)) ∧ w = w' := by
  have HR := Aside0.mk h
  have HB := Aside0.mk hb
  have h00 := xor_rng IntKind.u32.max s
  clear h hb
  go_enter Tryd.func56, Tryd.ntmps56
  go_wp2
  go_loopw [5, 13] (fun cv i wr => ∃ (j : Nat) (c : Int), j ≤ l.length ∧ i = .int .i64 j ∧ cv = .int .u32 c ∧ 0 ≤ c ∧ c < 4294967296 ∧ Aside0 (c = (l.take j).foldl byteF (bits .xor .u32 IntKind.u32.max s)) ∧ w = wr) (fun _ i _ => l.length - (intOf i).toNat)
  case atStart => exact ⟨0, _, by omega, rfl, rfl, h00.1, h00.2, ⟨rfl⟩, rfl⟩
  case round =>
    obtain ⟨j, c, hj, rfl, rfl, h0, h1, HC, rfl⟩ := hrel
    by_cases hlt : j < l.length
    · obtain ⟨ad, rfl, hc⟩ := Kd.at_int HR.out (j : Int) (by omega) (by omega)
      rw [Int.toNat_natCast] at hc
      have hxe : rd l (j : Int) = l[j] := by
        unfold rd
        rw [Int.toNat_natCast, List.getD_eq_getElem?_getD, List.getElem?_eq_getElem hlt]
        rfl
      have hx := HB.out _ (List.getElem_mem hlt)
      have htk : (l.take (j + 1)).foldl byteF (bits .xor .u32 IntKind.u32.max s) = byteF ((l.take j).foldl byteF (bits .xor .u32 IntKind.u32.max s)) l[j] := by
        rw [List.take_succ_eq_append_getElem hlt, List.foldl_append]
        rfl
      rw [← HC.out] at htk
      rw [hxe] at hc
      generalize l[j] = x at hc hx htk
      have HT := Aside0.mk htk
      have hcx := xor_rng c x
      clear htk hxe
      go_wp2
      go_loopw [5, 21] (fun cv i wr => ∃ (m : Nat) (c2 : Int), m ≤ 8 ∧ i = .int .i64 m ∧ cv = .int .u32 c2 ∧ 0 ≤ c2 ∧ c2 < 4294967296 ∧ Aside0 (c2 = bitN m (bits .xor .u32 c x)) ∧ w = wr) (fun _ i _ => 8 - (intOf i).toNat)
      case atStart => exact ⟨0, _, by omega, rfl, rfl, hcx.1, hcx.2, ⟨rfl⟩, rfl⟩
      case round =>
        obtain ⟨m, c2, hm, rfl, rfl, h2, h3, HC2, rfl⟩ := hrel
        by_cases hlt2 : m < 8
        · have t1 : decide ((m : Int) < 8) = true := decide_eq_true (by omega)
          have hbr := bitF_rng ⟨h2, h3⟩
          have hbe : bitN (m + 1) (bits .xor .u32 c x) = bitF c2 := by rw [HC2.out]; rfl
          have HE := Aside0.mk hbe
          clear hbe
          cases hbit : (bits .and .u32 c2 1 == 1)
          · have he : bitF c2 = c2 / 2 := by unfold bitF; rw [hbit]; rfl
            rw [he] at hbr
            have HE2 := Aside0.mk he
            clear he
            go_wp2
            go_roundw
            case rel => exact ⟨m + 1, c2 / 2, by omega, by go_num, rfl, hbr.1, hbr.2, ⟨by rw [HE.out, HE2.out]⟩, by trivial⟩
            case measure => simp [intOf]; omega
          · have he : bitF c2 = bits .xor .u32 (c2 / 2) 2197175160 := by unfold bitF; rw [hbit]; rfl
            rw [he] at hbr
            have HE2 := Aside0.mk he
            clear he
            go_wp2
            go_roundw
            case rel => exact ⟨m + 1, _, by omega, by go_num, rfl, hbr.1, hbr.2, ⟨by rw [HE.out, HE2.out]⟩, by trivial⟩
            case measure => simp [intOf]; omega
        · have t1 : decide ((m : Int) < 8) = false := decide_eq_false (by omega)
          obtain rfl : m = 8 := by omega
          go_wp2
          go_roundw
          case rel => exact ⟨j + 1, c2, by omega, by go_num, rfl, h2, h3, ⟨by rw [HT.out, HC2.out]; rfl⟩, by trivial⟩
          case measure => simp [intOf]; omega
    · obtain rfl : j = l.length := by omega
      rw [List.take_length] at HC
      go_wp2
      go_ret
      refine ⟨?_, rfl⟩
      unfold moreF
      rw [← HC.out]
      rfl
theorem crc_sum_c {w : World} {A : Option Addr} {c : Nat} {l : List Int} (h : RdB w A l) (hl : l.length ≤ 1000000) (hb : Byt l) :
    Calls Tryd.prog 41 #[.slice A l.length c] w fun e w' => e = .returned (.int .u32 (moreF 0 l)) ∧ w = w' := by
  go_enter Tryd.func41, Tryd.ntmps41
  go_wp2_with (refine (crc_more_c (s := 0) (by omega) h hl hb).mono ?_; rintro e w1 ⟨rfl, rfl⟩)
  go_ret
  exact ⟨rfl, rfl⟩
end Go.Proofs.YtnmiipcoojijiaaDoor.Top
namespace Go.Proofs.YtnmiipcoojijiaaDoor.Top
set_option linter.unusedSimpArgs false
set_option linter.unusedVariables false
open Go.RowKit Go.Proofs.YtnmiipcoojijiaaDoorW.PrintWords Go.Proofs.YtnmiipcoojijiaaDoorW.PrintLast Go.Proofs.YtnmiipcoojijiaaDoorW.PrintMore Go.Proofs.YtnmiipcoojijiaaDoor.Plain Go.Proofs.YtnmiipcoojijiaaDoor.Fns
def frontF (d : List Int) : List Int := fourB d.length ++ d
/-- A frame's bytes. -/
def frameF (d : List Int) : List Int := frontF d ++ fourB (moreF 0 (frontF d))
theorem fourB_len (x : Int) : (fourB x).length = 4 := rfl
theorem fourB_byt (x : Int) : Byt (fourB x) := fun y hy => by
  simp only [fourB, List.mem_cons, List.not_mem_nil, or_false] at hy
  omega
theorem byt_app {k l : List Int} (h : Byt k) (h' : Byt l) : Byt (k ++ l) := fun x hx => by
  rcases List.mem_append.1 hx with hx | hx
  · exact h x hx
  · exact h' x hx
theorem frontF_len (d : List Int) : (frontF d).length = d.length + 4 := by simp [frontF, fourB_len]; omega
theorem frameF_len (d : List Int) : (frameF d).length = d.length + 8 := by simp [frameF, frontF_len, fourB_len]
theorem frontF_byt {d : List Int} (h : Byt d) : Byt (frontF d) := byt_app (fourB_byt _) h
theorem frameF_byt {d : List Int} (h : Byt d) : Byt (frameF d) := byt_app (frontF_byt h) (fourB_byt _)
theorem AppTo.below {w w' : World} {v : Value} {r : List Int} {B n : Nat} {xs : List Value} (hg : w.grownBy w' v.ownBlock) {w0 : World} (hb : Below B w0 w) (ho : w.ownsRow B 5 1 v n xs) (hB : B ≤ w.heap.size) : Below B w0 w' :=
  hb.grown hg hB (fun k hk => (ho.lt k hk).1)
set_option maxHeartbeats 1000000 in
set_option maxRecDepth 100000 in
theorem frame_c {w : World} {A : Option Addr} {c : Nat} {d : List Int} (hd : RdB w A d) (hc0 : A = none → c = 0) (hc : d.length ≤ c) (hb : Byt d) (hl : d.length ≤ 65535) :
    Calls Tryd.prog 22 #[.slice A d.length c] w fun e w' => ∃ v, e = .returned (.tuple #[v, .int .i64 0]) ∧ w'.ownsRow w.heap.size 5 1 v (frameF d).length (nums .u8 (frameF d)) ∧ Below w.heap.size w w' := by
  have t1 : decide ((65535 : Int) < (d.length : Int)) = false := decide_eq_false (by omega)
  have t2 : (d.length : Int) % 4294967296 = (d.length : Int) := by omega
  have HD := Aside0.mk hd
  have HB := Aside0.mk hb
  have hfour := four_c (w := w) (B := w.heap.size) (v := .slice none 0 0) (l := []) (x := d.length) (Nat.le_refl _) (nil_own _ _) (by simp)
  rw [List.nil_append] at hfour
  clear hd hb
  go_enter Tryd.func22, Tryd.ntmps22
  go_wp2_with fail
  refine hfour.mono ?_
  rintro e w2 ⟨v1, rfl, ho1, hg1, hat1⟩
  have hB1 : Below w.heap.size w w2 := (Below.refl _ w).grown hg1 (Nat.le_refl _) (fun k hk => by simp [Value.ownBlock] at hk)
  have hd2 := HD.out.below hB1
  have hs1 := hB1.size
  clear hfour hg1
  go_wp2_with (at_builtin; refine wpList_append_bytes rfl _ _ rfl rfl rfl ho1 hd2 hc0 (by rw [fourB_len]; omega) hB1.size ?_; intro v2 w3 ho2 hg2 hat2)
  have hB2 := AppTo.below (r := []) hg2 hB1 ho1 hs1
  have hs2 := hB2.size
  have e2 : fourB (d.length : Int) ++ d = frontF d := rfl
  rw [e2] at ho2
  obtain ⟨A2, c2, rfl, hr2, hc2, hn2, hb2⟩ := own_form ho2
  have hsum := crc_sum_c hr2 (by rw [frontF_len]; omega) (frontF_byt HB.out) (c := c2)
  have hfour := four_c (w := w3) (B := w.heap.size) (x := moreF 0 (frontF d)) hs2 ho2 (by rw [frontF_len]; omega)
  clear ho1 hd2 hg2 hat1 hat2 hr2
  go_wp2_with (first
    | (go_at_call 41; refine hsum.mono ?_; rintro e w4 ⟨rfl, rfl⟩)
    | (go_at_call 40; refine hfour.mono ?_; rintro e w5 ⟨v3, rfl, ho3, hg3, hat3⟩))
  go_ret2
  exact ⟨v3, rfl, ho3, AppTo.below (r := []) hg3 hB2 ho2 hs2⟩
end Go.Proofs.YtnmiipcoojijiaaDoor.Top
