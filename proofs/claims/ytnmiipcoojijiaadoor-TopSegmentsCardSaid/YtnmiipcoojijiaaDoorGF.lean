/-
  simfs: a range over a map of names, Used; conditions: those that each theorem states.
-/
import Derived.Test.YtnmiipcoojijiaaDoorGE
namespace Go.Proofs.YtnmiipcoojijiaaDoor.Top
set_option linter.unusedSimpArgs false
set_option linter.unusedVariables false
open Go.RowKit Go.Proofs.YtnmiipcoojijiaaDoorW.PrintWords Go.Proofs.YtnmiipcoojijiaaDoorW.PrintLast Go.Proofs.YtnmiipcoojijiaaDoorW.PrintMore Go.Proofs.YtnmiipcoojijiaaDoor.Plain Go.Proofs.YtnmiipcoojijiaaDoor.Fns Go.Maps
set_option maxRecDepth 100000 in
theorem key_seg {x : ByteArray} {j : Nat} (h : keyOf Tryd.prog 9 (.string x) = some (segK j)) : x = segS j := by
  unfold keyOf mapKey at h
  rw [Tryd.underlying9] at h
  simp only at h
  split at h
  · injection h with h
    unfold segK at h
    injection h with h
    have : x.data = (segS j).data := Array.toList_inj.1 h
    cases x
    cases hs : segS j
    rw [hs] at this
    exact congrArg ByteArray.mk this
  · cases h
/-- The step of a range over a map of names. -/
theorem wpList_next_seg (w : World) {ops : Array Oper} {rest : List Oper} {o : Oper} {a : Act} {Q : Exit → Act → World → Prop} (hg : o.guard = none) (it : Operand) (hop : o.op = Op.next it false) (b r n : Nat) (D : DataW Value) (m : Nat → Option Nat) (left : Lit → Bool) (cnt : Nat) (hD : NamesD D m)
    (hit : a.eval it = .pointer (some ⟨r, 0, none⟩)) (h : w.ranges Tryd.prog 9 Rp b r n D left cnt)
    (hDone : cnt = 0 → (∀ kl, left kl = false) → wpList Tryd.prog ops Q rest (a.put o.dst (.tuple #[.bool false])) w)
    (hMore : ∀ (j f : Nat) (w' : World) (cnt' : Nat), m j = some f → left (segK j) = true → w'.ranges Tryd.prog 9 Rp b r n D (fun z => left z && !z.sameKey (segK j)) cnt' → cnt' < cnt → w.grownBy w' (some r) → w'.heap.size = w.heap.size →
      (Instr.entry (.pointer (some ⟨r, 0, none⟩))).run Tryd.prog w' = .ok (.tuple #[.string (segS j), .pointer (some ⟨f, 0, none⟩)]) w' → wpList Tryd.prog ops Q rest (a.put o.dst (.tuple #[.bool true, .string (segS j), .pointer (some ⟨f, 0, none⟩)])) w') :
    wpList Tryd.prog ops Q (o :: rest) a w := by
  refine wpList_next_ranges w hg it hop 9 (string_keyed Tryd.underlying9) Rp (fun x : ByteArray => .string x) (fun v : Value => v) (fun key kl hk => ?_) (fun v y _ => ⟨v, rfl⟩) b r n D left cnt hit h hDone ?_
  · obtain ⟨x, hx, _⟩ := Maps.keyOf_str Tryd.underlying9 hk
    exact ⟨_, hx⟩
  · intro x c kl y w' cnt' hkey hl hR hat hrg hlt hgr hsz hen
    obtain ⟨j, f, hj, rfl⟩ := hD.only kl (has_true_of_atKey hat)
    have hx := key_seg hkey
    have hc : c = ptrV f := by
      have h1 := (hD.all j f hj).2.2.2 (.held (.pointer none))
      rw [hat] at h1
      have h2 : y = (.held c, []) := (Option.some.inj hR).symm
      rw [h2] at h1
      injection h1
    subst hx
    subst hc
    exact hMore j f w' cnt' hj hl hrg hlt hgr hsz hen
theorem sameK (n : Nat) : (segK n).sameKey (segK n) = true := WideAt.sameKey_self (segK_key n)
/-- What Used tells. -/
def UsedR (F : Fs) (w : World) (e : Ending) (w' : World) : Prop := ∃ u : Int, e = .returned (.int .i64 u) ∧ (∀ n b, F.dm = upd nob n b → u = (F.fd b).1.length) ∧ Below w.heap.size w w'
/-- How far the sum has come. -/
def SumI (F : Fs) (left : Lit → Bool) (z : Int) : Prop := ∀ n b, F.dm = upd nob n b → (left (segK n) = true ∧ z = 0) ∨ (left (segK n) = false ∧ z = (F.fd b).1.length)
theorem SumI.step {F : Fs} {left : Lit → Bool} {z : Int} {j f : Nat} (h : SumI F left z) (hj : F.dm j = some f) (hl : left (segK j) = true) (hL : (F.fd f).1.length ≤ 1048576) : SumI F (fun x => left x && !x.sameKey (segK j)) (wrap64 (z + ((F.fd f).1.length : Int))) := fun n b he => by
  have h1 := h n b he
  rw [he] at hj
  rcases upd_some hj with ⟨rfl, rfl⟩ | ⟨_, hj⟩
  · rcases h1 with ⟨_, rfl⟩ | ⟨h1, _⟩
    · right
      refine ⟨by simp [sameK], ?_⟩
      unfold wrap64
      omega
    · rw [hl] at h1
      cases h1
  · cases hj
set_option maxRecDepth 100000 in
set_option maxHeartbeats 4000000 in
theorem used_c {w : World} {F : Fs} {q : Nat} (h : FsAt F q w) : Calls Tryd.prog 16 #[.pointer (some ⟨F.fb, 0, none⟩)] w (UsedR F w) := by
  have HM : Aside0 (Calls Tryd.prog 17 #[.pointer (some ⟨F.fb, 0, none⟩)] w fun e w' => e = .returned (.bool true) ∧ Below w.heap.size w w') := by
    obtain ⟨vp, hb, hpd⟩ := h.box
    exact ⟨made_c hb h.hr⟩
  have HB : Aside0 (∀ W, Below w.heap.size w W → W.cell? ⟨F.fb, 1, none⟩ = some (.map (some F.db))) := by
    obtain ⟨vp, hb, hpd⟩ := h.box
    exact ⟨fun W hB => (blk_cell ((hB.block _ (blk_lt hb.b)).trans hb.b) 1).trans rfl⟩
  have H := Aside0.mk h
  obtain ⟨D, hO, hD⟩ := h.dmp
  have HD := Aside0.mk hD
  have HO := Aside0.mk hO
  clear h hO hD
  go_enter Tryd.func16, Tryd.ntmps16
  go_wp2_with (first
    | (go_at_call 17; refine HM.out.mono ?_; rintro e w2 ⟨rfl, hb2⟩
       have c1 := HB.out w2 hb2)
    | (at_range; refine wpList_range_own _ rfl _ 47 rfl 9 66 (string_keyed Tryd.underlying9) Tryd.underlying47 Rp F.db q D rfl (HO.out.kept (row := none) ⟨hb2.os, hb2.tape, hb2.output, hb2.size, fun i hi _ => hb2.block i hi⟩ (by simp)) ?_; intro w0 hrg0 hg0 hs0)
    | fail)
  go_frame
  have hb0 : Below w.heap.size w w0 := hb2.grown hg0 hb2.size (fun k hk => by cases hk)
  have hS0 : SumI F (has D) 0 := fun n b he => .inl ⟨(HD.out.all n b (by rw [he]; exact upd_same _ _ _)).2.2.1, rfl⟩
  generalize hrr : w2.heap.size = rb at *
  have hrb : w.heap.size ≤ rb := by rw [← hrr]; exact hb2.size
  clear hrr c1 hb2 hg0
  go_loopw [3] (fun i wr => ∃ (z : Int) (left : Lit → Bool) (cnt : Nat), i = .int .i64 z ∧ Aside0 (wr.ranges Tryd.prog 9 Rp F.db rb q D left cnt ∧ Below w.heap.size w wr ∧ SumI F left z)) (fun _ wr => wr.rangeLeft F.db rb)
  case atStart => exact ⟨0, _, _, rfl, ⟨hrg0, hb0, hS0⟩⟩
  case round =>
    clear hrg0 hb0 hS0 hs0
    obtain ⟨z, left, cnt, rfl, HI⟩ := hrel
    go_wp2_with (first
      | (at_next; refine wpList_next_seg _ rfl _ rfl F.db rb q D F.dm left cnt HD.out rfl HI.out.1 ?_ ?_)
      | fail)
    · intro hc hl
      go_wp2_with fail
      go_ret
      refine ⟨z, rfl, fun n b he => ?_, HI.out.2.1⟩
      rcases HI.out.2.2 n b he with ⟨h1, _⟩ | ⟨_, h1⟩
      · rw [hl] at h1; cases h1
      · exact h1
    · intro j f w3 cnt3 hj hlj hrg hlt hgr hsz hen
      have hb3 : Below w.heap.size w w3 := HI.out.2.1.grown hgr HI.out.2.1.size (fun k hk => by cases hk; exact hrb)
      obtain ⟨A, c, hbk, hrd, hlc, hsl, hmx, hty⟩ := (H.out.below hb3).files f (.inl ⟨j, hj⟩)
      have c0 : w3.cell? ⟨f, 0, none⟩ = some (.slice A (F.fd f).1.length c) := (blk_cell hbk 0).trans rfl
      have HN := Aside0.mk (And.intro hrg (And.intro hb3 (HI.out.2.2.step hj hlj hmx)))
      have HLT := Aside0.mk (And.intro hlt hrg.left_eq)
      have HLE := Aside0.mk HI.out.1.left_eq
      clear hrg hb3 hbk hrd hlc hsl hmx hty hj hlj hgr hsz hlt
      go_wp2_with fail
      go_roundw
      case rel => exact ⟨_, _, _, rfl, HN⟩
      case measure => rw [HLT.out.2, HLE.out]; exact HLT.out.1
theorem nums_len (k : List Int) : (nums .u8 k).length = k.length := by simp [nums]
theorem run_app_full {w : World} {A : Option Addr} {d fr : List Int} {a : Addr} {c : Nat} (ty : TypeId) (hd : RdB w A d) (hf : RdB w (some a) fr) (h0 : 0 < fr.length) (hl : d.length + fr.length < 1000000000) :
    ∃ cap w', (Builtin.append_ #[60, 60] ty #[.slice A d.length d.length, .slice (some a) fr.length c]).run Tryd.prog w = .ok (.slice (some ⟨w.heap.size, 0, none⟩) (d ++ fr).length cap) w' ∧ w'.ownsRow w.heap.size 5 1 (.slice (some ⟨w.heap.size, 0, none⟩) (d ++ fr).length cap) (d ++ fr).length (nums .u8 (d ++ fr)) ∧ Below w.heap.size w w' := by
  obtain ⟨i0, hi, hzz⟩ := Option.map_eq_some_iff.1 info_u8
  simp only [Prod.mk.injEq] at hzz
  obtain ⟨hz0, hz1, hz2⟩ := hzz
  have hlen : (nums .u8 d ++ nums .u8 fr).length = d.length + fr.length := by simp [nums]
  have key : ∀ old : Nat, old ≤ d.length + fr.length → (w.drew.alloc (.cells ((nums .u8 d).toArray ++ (nums .u8 fr).toArray ++ Builtin.zeroCells (Value.cells (.int .u8 0)) (grownCap w (d.length + fr.length) old 5 - (d.length + fr.length))) 5)).ownsRow w.heap.size 5 1 (.slice (some ⟨w.heap.size, 0, none⟩) (d ++ fr).length (grownCap w (d.length + fr.length) old 5)) (d ++ fr).length (nums .u8 (d ++ fr)) := fun old ho => by
    have hge := grownCap_ge w (d.length + fr.length) old 5
    have hcm : grownCap w (d.length + fr.length) old 5 ≤ maxLen := grownCap_le_maxLen w _ old 5 (by simp only [maxLen]; omega)
    refine ⟨by simp [nums], .inr ⟨w.heap.size, _, _, rfl, Nat.le_refl _, heap_alloc_new w.drew _, by rw [List.length_append]; exact hge, hcm, ?_, ?_⟩⟩
    · simp only [Array.size_append, List.size_toArray, size_zeroCells, nums_len, show (Value.cells (.int .u8 0)).size = 1 from rfl]
      omega
    · rw [nums_append]
      simp only [Array.toList_append, List.append_assoc]
      rw [← List.append_assoc, List.length_append, Nat.mul_one, ← hlen]
      exact List.take_left
  cases A with
  | none =>
    have hd0 : d = [] := by
      rcases Nat.eq_zero_or_pos d.length with h | h
      · exact List.eq_nil_of_length_eq_zero h
      · obtain ⟨x, e⟩ := hd.some h
        cases e
    subst hd0
    have hr := run_append_nil (P := Tryd.prog) w 60 ty 5 i0 (.int .u8 0) Tryd.underlying60 hi hz0 a fr.length c (nums .u8 fr) (by rw [hz1]; simp [nums]) (rd_news hf) h0 (by simp at hl; omega) (by rw [hz2]; simp at hl; omega)
    have hk := key 0 (by omega)
    simp only [List.length_nil, Nat.zero_add, List.nil_append, show nums .u8 [] = [] from rfl, Array.empty_append, List.nil_append] at hk hr ⊢
    exact ⟨_, _, hr, hk, ((below_drew (Below.refl w.heap.size w)).alloc (Nat.le_refl _) _)⟩
  | some b =>
    have hr := run_append_grow (P := Tryd.prog) w 60 ty 5 i0 (.int .u8 0) Tryd.underlying60 hi hz0 b d.length d.length (nums .u8 d) (by rw [hz1]; simp [nums]) (rd_news hd) a fr.length c (nums .u8 fr) (by rw [hz1]; simp [nums]) (rd_news hf) (by omega) (by omega) (by rw [hz2]; exact growslice_fits (by omega) (by omega))
    have hk := key d.length (by omega)
    rw [List.length_append] at hk ⊢
    exact ⟨_, _, hr, hk, ((below_drew (Below.refl w.heap.size w)).alloc (Nat.le_refl _) _)⟩
/-- The same at a step of a region that draws. -/
theorem step_app_full {ops : Array Oper} {o : Oper} {a' : Act} {w : World} {K : Act → World → Prop} {Q : Exit → Act → World → Prop} {E : Prop} (hw : Region.wanted o (yielded ops a'.tmps) = true) (s x : Operand)
    (ho : o.op = .call { callee := .builtin .append, args := #[s, x], argTypes := #[60, 60] }) {A : Option Addr} {d fr : List Int} {a : Addr} {n m c : Nat} (hn : n = d.length) (hm : m = fr.length) (hs : a'.eval s = .slice A n n) (hx : a'.eval x = .slice (some a) m c)
    (hd : RdB w A d) (hf : RdB w (some a) fr) (h0 : 0 < fr.length) (hl : d.length + fr.length < 1000000000)
    (h : ∀ cap w', w'.ownsRow w.heap.size 5 1 (.slice (some ⟨w.heap.size, 0, none⟩) (d ++ fr).length cap) (d ++ fr).length (nums .u8 (d ++ fr)) → Below w.heap.size w w' → K (a'.put o.dst (.slice (some ⟨w.heap.size, 0, none⟩) (d ++ fr).length cap)) w') : if Region.wanted o (yielded ops a'.tmps) = true then Oper.wp Tryd.prog o a' w K Q else E := by
  subst hn
  subst hm
  rw [if_pos hw]
  obtain ⟨cap, w', hr, h2, h3⟩ := run_app_full (c := c) o.type hd hf h0 hl
  unfold Oper.wp execOp
  simp only [ho, resolve, invoke, builtin, Sem.run_bind, Sem.run_pure, Result.andThen_ok, List.map_toArray, List.map_cons, List.map_nil, hs, hx, hr]
  exact h cap w' h2 h3
/-- What Append makes of a file system. -/
structure AppS (F F' : Fs) (b : Nat) (fr : List Int) (r : Int) : Prop where
  lo : F'.lo = F.lo
  fb : F'.fb = F.fb
  dm : F'.dm = F.dm
  om : F'.om = F.om
  pd : F'.pd = F.pd
  ok : r = 0 → F'.fd = fun x => if x = b then ((F.fd b).1 ++ fr, (F.fd b).2) else F.fd x
  no : r ≠ 0 → F'.fd = F.fd
  pl : F.pl = false → F'.pl = false
  room : F'.room = F.room
def AppR (F : Fs) (q b : Nat) (fr : List Int) (w : World) (e : Ending) (w' : World) : Prop :=
  ∃ (r : Int) (F' : Fs), e = .returned (.int .i64 r) ∧ FsAt F' q w' ∧ KeepFs F.lo w w' ∧ AppS F F' b fr r ∧
    (∀ n, F.dm = upd nob n b → F.room ≤ 1000000 → (fr.length : Int) ≤ F.room - (F.fd b).1.length → (F.fd b).1.length + fr.length ≤ 1000000 → r = F.pw)
theorem app_no {F F' : Fs} {q b : Nat} {fr : List Int} {w w' : World} {r : Int} (hr : r ≠ 0) (h : FsAt F' q w') (hk : KeepFs F.lo w w') (hF : F' = F ∨ F' = F.pln)
    (hx : ∀ n, F.dm = upd nob n b → F.room ≤ 1000000 → (fr.length : Int) ≤ F.room - (F.fd b).1.length → (F.fd b).1.length + fr.length ≤ 1000000 → r = F.pw) : AppR F q b fr w (.returned (.int .i64 r)) w' :=
  ⟨r, F', rfl, h, hk, by
    rcases hF with rfl | rfl
    · exact ⟨rfl, rfl, rfl, rfl, rfl, fun e => absurd e hr, fun _ => rfl, fun h => h, rfl⟩
    · exact ⟨rfl, rfl, rfl, rfl, rfl, fun e => absurd e hr, fun _ => rfl, pl_pln, rfl⟩, hx⟩
theorem app_yes {F : Fs} {q b n : Nat} {fr : List Int} {w w5 w6 : World} {cap c : Nat} {A : Option Addr} (hn : F.dm n = some b) (hz : F.pw = 0) (h5 : FsAt F.pln q w5) (hk : KeepFs F.lo w w5) (hl : (F.fd b).1.length + fr.length ≤ 1048576) (hb6 : Below w5.heap.size w5 w6)
    (ho : w6.ownsRow w5.heap.size 5 1 (.slice (some ⟨w5.heap.size, 0, none⟩) ((F.fd b).1 ++ fr).length cap) ((F.fd b).1 ++ fr).length (nums .u8 ((F.fd b).1 ++ fr))) (hbk : w5.heap[b]? = some (.cells #[.slice A (F.fd b).1.length c, .int .i64 (F.fd b).2] 68 (0, 0))) :
    AppR F q b fr w (.returned (.int .i64 0)) (w6.setCell ⟨b, 0, none⟩ (.slice (some ⟨w5.heap.size, 0, none⟩) ((F.fd b).1 ++ fr).length cap)) := by
  have hI : F.pln.Is b := .inl ⟨n, hn⟩
  have h6 := h5.below hb6
  have hbk6 := (hb6.block b (blk_lt hbk)).trans hbk
  have hgr : w6.grownBy (w6.setCell ⟨b, 0, none⟩ (.slice (some ⟨w5.heap.size, 0, none⟩) ((F.fd b).1 ++ fr).length cap)) (some b) := ⟨rfl, rfl, rfl, by simp, fun k hk hne => Below.heap_setCell _ _ _ _ (fun e => hne (by rw [show k = b from e]))⟩
  have hk6 : KeepFs F.lo w6 (w6.setCell ⟨b, 0, none⟩ (.slice (some ⟨w5.heap.size, 0, none⟩) ((F.fd b).1 ++ fr).length cap)) := KeepFs.grown hgr h6.lo_le (h6.l4 b hI) (.inr (.inl ⟨_, _, _, hbk6, .inr rfl⟩))
  obtain ⟨A5, c5, _, _, _, hs, _, _⟩ := h5.files b hI
  have hs : (F.fd b).2 ≤ (F.fd b).1.length := hs
  have hty : ∃ cs, w6.heap[w5.heap.size]? = some (.cells cs 5 (0, 0)) := own_typed ho _ rfl
  have hcap : ((F.fd b).1 ++ fr).length ≤ cap := by
    obtain ⟨A', c', he, _, hc⟩ := own_rdb ho
    cases he
    exact hc
  have hrd := own_read ho
  obtain ⟨r1, r2⟩ := h6.setF (b := b) (d := (F.fd b).1 ++ fr) (s := (F.fd b).2) hI hgr ⟨_, cap, blk_put hbk6 0 _ rfl, hk6.rdb hrd (fun a ha => by cases ha; exact hty), ⟨hcap, fun e => by cases e⟩, by rw [List.length_append]; omega, by rw [List.length_append]; exact hl, fun a ha => by
    cases ha
    obtain ⟨cs, hcs⟩ := hty
    exact ⟨cs, (hk6.ty _ _ _ hcs (by decide) (by decide)).trans hcs⟩⟩
  exact ⟨0, _, rfl, r1, (hk.trans (h5.keep hb6)).trans r2, ⟨rfl, rfl, rfl, rfl, rfl, fun _ => rfl, fun h => absurd rfl h, fun h => pl_pln h, rfl⟩, fun _ _ _ _ _ => hz.symm⟩
set_option maxRecDepth 100000 in
set_option maxHeartbeats 8000000 in
theorem append_c {w : World} {F : Fs} {q n b : Nat} {a : Addr} {c : Nat} {fr : List Int} (h : FsAt F q w) (hn : F.dm n = some b) (hf : RdB w (some a) fr) (hty : ∃ cs, w.heap[a.block]? = some (.cells cs 5 (0, 0))) (h0 : 0 < fr.length) (hl : fr.length ≤ 100000) :
    Calls Tryd.prog 23 #[.pointer (some ⟨F.fb, 0, none⟩), .string (segS n), .slice (some a) fr.length c] w (AppR F q b fr w) := by
  have HF := Aside0.mk (find_c h hn)
  have HU : Aside0 (∀ W, Below w.heap.size w W → Calls Tryd.prog 16 #[.pointer (some ⟨F.fb, 0, none⟩)] W fun e w' => ∃ u : Int, e = .returned (.int .i64 u) ∧ (∀ n b, F.dm = upd nob n b → u = (F.fd b).1.length) ∧ Below w.heap.size w w') :=
    ⟨fun W hB => (used_c (h.below hB)).mono fun e w' ⟨u, h1, h2, h3⟩ => ⟨u, h1, h2, hB.trans (h3.mono hB.size)⟩⟩
  have HP := Aside0.mk (fun (W : World) (hB : Below w.heap.size w W) => plan_fs (h.below hB))
  have hI : F.Is b := .inl ⟨n, hn⟩
  have HR := Aside0.mk (And.intro hf (And.intro hty (And.intro h0 hl)))
  have HX : Aside0 (∀ W, Below w.heap.size w W → W.cell? ⟨F.fb, 0, none⟩ = some (.int .i64 F.room)) := by
    obtain ⟨vp, hb, hpd⟩ := h.box
    exact ⟨fun W hB => (blk_cell ((hB.block _ (blk_lt hb.b)).trans hb.b) 0).trans rfl⟩
  obtain ⟨A, cb, hbk, hrd, hlc, hsl, hmx, htyb⟩ := h.files b hI
  have HBK := Aside0.mk hbk
  have HI := Aside0.mk hI
  have HRA := Aside0.mk (And.intro hrd htyb)
  have HMM := Aside0.mk hmx
  have HCB := Aside0.mk hlc.1
  have H := Aside0.mk (And.intro h hn)
  obtain ⟨L, hL⟩ : ∃ L, L = (F.fd b).1.length := ⟨_, rfl⟩
  rw [← hL] at hmx
  have HL := Aside0.mk hL
  obtain ⟨m, hm⟩ : ∃ m, m = fr.length := ⟨_, rfl⟩
  have HM := Aside0.mk hm
  rw [← hm]
  have hw1 : IntKind.i64.wrap (1048576 - (L : Int)) = 1048576 - (L : Int) := by rw [IntKind.wrap_i64]; omega
  have hw2 : wrap64 (1048576 - (L : Int)) = 1048576 - (L : Int) := by unfold wrap64; omega
  clear h hn hf hty h0 hl hI hbk hrd hlc hsl htyb hm hL
  by_cases hM : (m : Int) ≤ 1048576 - (L : Int)
  · have t1 : decide (1048576 - (L : Int) < (m : Int)) = false := decide_eq_false (by omega)
    go_enter Tryd.func23, Tryd.ntmps23
    go_wp2_with (first
      | (go_at_call 42; refine HF.out.mono ?_; rintro e w2 ⟨rfl, hb2⟩
         have c0 : w2.cell? ⟨b, 0, none⟩ = some (.slice A L cb) := by rw [HL.out]; exact cell_below hb2 ((blk_cell HBK.out 0).trans rfl)
         have x0 := HX.out w2 hb2)
      | fail)
    have k2 : Below w.heap.size w w2 := hb2
    go_region_held3 (fun w' => w'.cell? ⟨F.fb, 0, none⟩ = some (.int .i64 F.room) ∧ Below w.heap.size w w') (first | exact ⟨by assumption, by (repeat' (first | with_reducible exact Below.refl _ _ | with_reducible assumption | with_reducible apply bdrew | with_reducible apply bdrewN | with_reducible apply balloc | with_reducible refine bset ?_ (Nat.le_refl _)))⟩ | (trace_state; fail)) (first | (go_at_call 16; refine (HU.out _ (by (repeat' (first | with_reducible exact Below.refl _ _ | with_reducible assumption | with_reducible apply bdrew | with_reducible apply bdrewN | with_reducible apply balloc | with_reducible refine bset ?_ (Nat.le_refl _))))).mono ?_; rintro e w3 ⟨u, rfl, hus, hb3⟩; have x3 := HX.out w3 hb3) | fail)
    all_goals
      have HUS := Aside0.mk (And.intro hus hb3)
      generalize hT : IntKind.i64.wrap (F.room - u) = T at *
      have HT := Aside0.mk hT
      clear hT hus
      by_cases hTm : T < (m : Int)
      · have t4 : decide (T < (m : Int)) = true := decide_eq_true hTm
        go_wp2_with fail
        go_ret
        refine app_no (by decide) (H.out.1.below hb3) (H.out.1.keep hb3) (.inl rfl) (fun n2 h5 h6 h7 h8 => ?_)
        have h9 := HUS.out.1 n2 b h5
        have h10 := HT.out
        rw [IntKind.wrap_i64] at h10
        rw [← HM.out] at h7
        have hr := H.out.1.hr
        omega
      · have t4 : decide (T < (m : Int)) = false := decide_eq_false hTm
        obtain ⟨r, hr⟩ : ∃ r, r = F.pw := ⟨_, rfl⟩
        have HPW := HP.out w3 hb3
        rw [← hr] at HPW
        have HPW := Aside0.mk HPW
        have HRR := Aside0.mk hr
        clear hr
        by_cases hz : r = 0
        · subst hz
          go_wp2_with (first
            | (go_at_call 35; refine HPW.out.mono ?_; rintro e w5 ⟨rfl, hf5, hk5, hg5⟩
               have hbk5 : w5.heap[b]? = some (.cells #[.slice A (F.fd b).1.length cb, .int .i64 (F.fd b).2] 68 (0, 0)) := (hg5.block b (Nat.lt_of_lt_of_le (blk_lt HBK.out) hb3.size) (fun e => (H.out.1.fb_ne.2.2 b HI.out).1 (by injection e with e; exact e.symm))).trans ((hb3.block b (blk_lt HBK.out)).trans HBK.out)
               have c5 : w5.cell? ⟨b, 0, none⟩ = some (.slice A L cb) := by rw [HL.out]; exact (blk_cell hbk5 0).trans rfl
               have HF5 := Aside0.mk (And.intro hf5 (And.intro ((H.out.1.keep hb3).trans hk5) hbk5))
               clear hf5 hk5 hg5 hbk5)
            | fail)
          have HRD5 := Aside0.mk (And.intro (HF5.out.1.files b HI.out) (And.intro (HF5.out.2.1.rdb HR.out.1 (fun x e => by cases e; exact HR.out.2.1)) HMM.out))
          have hrdA : RdB w5 A (F.fd b).1 := HF5.out.2.1.rdb HRA.out.1 HRA.out.2
          have HRDA := Aside0.mk hrdA
          clear hrdA c0 x0 k2 x3 HUS HT
          have hlM : (F.fd b).1.length + fr.length ≤ 1048576 := by rw [← HL.out, ← HM.out]; omega
          have HLM := Aside0.mk hlM
          have hLc : L ≤ cb := by rw [HL.out]; exact HCB.out
          have hLi : (L : Int) ≤ (cb : Int) := by omega
          have hLn : ¬ (cb < L) := by omega
          have hLj : ¬ ((cb : Int) < (L : Int)) := by omega
          clear hlM
          go_region_law (refine step_app_full (w := w5.drew) (A := A) (d := (F.fd b).1) (fr := fr) (a := a) (n := L) (m := m) (c := c) ?hw (.tmp 61) (.tmp 62) ?ho HL.out HM.out ?hs ?hx ?hd ?hf ?h0 ?hl ?_; (case hw => simp [Region.wanted]); (case ho => rfl); (case hs => simp [Act.eval, Act.put]); (case hx => simp [Act.eval, Act.put]); (case hd => exact HRDA.out.drewN 1); (case hf => exact HRD5.out.2.1.drewN 1); (case h0 => exact HR.out.2.2.1); (case hl => have := HLM.out; omega); intro cap6 w6 hown6 hB6; have c6 : w6.cell? ⟨b, 0, none⟩ = some (.slice A L cb) := cell_below hB6 c5; have f6 : w6.frozen? ⟨b, 0, none⟩ = false := blk_frozen ((hB6.block _ (blk_lt (w := w5) HF5.out.2.2)).trans HF5.out.2.2) 0; have H6 := Aside0.mk (And.intro hown6 hB6); clear hown6 hB6)
          all_goals
            go_wp2_with fail
            go_ret
            have h9 := app_yes (w5 := w5.drew) H.out.2 HRR.out.symm (HF5.out.1.below (below_drew (Below.refl _ _))) HF5.out.2.1.drew HLM.out H6.out.2 H6.out.1 HF5.out.2.2
            rw [List.length_append] at h9
            exact h9
        · have t5 : decide (r = 0) = false := decide_eq_false hz
          have t6 : (r == 0) = false := by simp [hz]
          have t7 : (r != 0) = true := by simp [hz]
          go_wp2_with (first
            | (go_at_call 35; refine HPW.out.mono ?_; rintro e w5 ⟨rfl, hf5, hk5, hg5⟩)
            | fail)
          go_ret
          exact app_no (F' := F.pln) hz hf5 ((H.out.1.keep hb3).trans hk5) (.inr rfl) (fun _ _ _ _ _ => HRR.out)
  · have t1 : decide (1048576 - (L : Int) < (m : Int)) = true := decide_eq_true (by omega)
    go_enter Tryd.func23, Tryd.ntmps23
    go_wp2_with (first
      | (go_at_call 42; refine HF.out.mono ?_; rintro e w2 ⟨rfl, hb2⟩
         have c0 : w2.cell? ⟨b, 0, none⟩ = some (.slice A L cb) := by rw [HL.out]; exact cell_below hb2 ((blk_cell HBK.out 0).trans rfl))
      | fail)
    go_ret
    exact app_no (by decide) (H.out.1.below hb2) (H.out.1.keep hb2) (.inl rfl) (fun n _ _ _ h9 => absurd h9 (by rw [← HL.out, ← HM.out]; omega))
end Go.Proofs.YtnmiipcoojijiaaDoor.Top
