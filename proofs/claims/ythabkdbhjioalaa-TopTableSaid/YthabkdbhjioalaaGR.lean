/-
  The law's walk: TopTable answers true; conditions: those that each theorem states.
-/
import Derived.Test.YthabkdbhjioalaaGQ
import Derived.SliceStrings
import Derived.ChangeSlices
import Derived.Lib.SmallJoins
import Derived.ChangeSame
import Derived.OpenShut
import Derived.Deep.Slices
import Derived.Deep.Fields
namespace Go.Proofs.Ythabkdbhjioalaa.Top
set_option linter.unusedSimpArgs false
set_option linter.unusedVariables false
open Go.RowKit Go.Proofs.YthabkdbhjioalaaW.PrintWords Go.Proofs.YthabkdbhjioalaaW.PrintLast Go.Proofs.YthabkdbhjioalaaW.PrintMore Go.Proofs.Ythabkdbhjioalaa.Plain Go.Proofs.Ythabkdbhjioalaa.Fns
/-- What the first loop holds. -/
structure TlI (w : World) (base L j : Nat) (ns : List Nd) (W : World) : Prop where
  sk : SkAt false W base L ns
  gd : ∀ n ∈ ns, Gd n.a
  ln : ns.length ≤ j
  be : Below w.heap.size w W
  bs : base ≤ W.heap.size
theorem TlI.below {w W W1 : World} {base L j : Nat} {ns : List Nd} (h : TlI w base L j ns W) (hb : Below W.heap.size W W1) : TlI w base L j ns W1 := ⟨h.sk.below hb, h.gd, h.ln, h.be.trans (hb.mono h.be.size), Nat.le_trans h.bs hb.size⟩
theorem TlI.put {w W W1 : World} {base L j : Nat} {ns : List Nd} {k : List Int} {a : Ag} {e : Ending} (h : TlI w base L j ns W) (hp : PutTo W base L ns k a e W1) (hb : w.heap.size ≤ base) (hL : w.heap.size ≤ L) : ∃ ns', e = .returned (.int .i64 0) ∧ TlI w base L (j + 1) ns' W1 := by
  obtain ⟨ns', rfl, h1, h2, h3, h4, h5, h6⟩ := hp
  exact ⟨ns', rfl, h1, h3 h.gd, by have := h.ln; omega, h.be.trans (h6.mono (by omega)), Nat.le_trans h.bs h6.size⟩
/-- Put at whatever came in. -/
theorem put_any {w W : World} {base L c h j : Nat} {A : Option Addr} {k : List Int} {a : Ag} {ns : List Nd} (hI : TlI w base L j ns W) (hb : w.heap.size ≤ base) (hL : w.heap.size ≤ L) (hj : j ≤ 80) (hk : RdB W A k) (hkc : k.length ≤ c) (hby : Byt k) (hh1 : 1 ≤ h) (hh2 : h ≤ 8) (ho : a.ok) (hmn : -9223372036854775808 ≤ a.mn ∧ a.mn < 9223372036854775808) (hmx : -9223372036854775808 ≤ a.mx ∧ a.mx < 9223372036854775808) :
    Calls Try.prog 7 #[ptr L, entV A k.length c a, .int .i64 h] W fun e w' => ∃ z ns', e = .returned (.int .i64 z) ∧ TlI w base L (j + 1) ns' w' := by
  by_cases hg : 1 ≤ k.length ∧ k.length ≤ 256 ∧ a.c ≠ 0 ∧ rightF a = true
  · obtain ⟨g1, g2, g3, g4⟩ := hg
    obtain ⟨a', rfl⟩ := hk.some (by omega)
    refine (put_c hI.bs hI.sk hk hkc hby (by omega) g2 hh1 hh2 (by have := hI.ln; omega) ⟨g3, g4, ho, hmn, hmx⟩ hI.gd).mono ?_
    intro e w' hP
    obtain ⟨ns', rfl, h'⟩ := hI.put hP hb hL
    exact ⟨0, ns', rfl, h'⟩
  · refine (put_bad hI.sk hh1 hh2 ?_).mono ?_
    · by_cases g1 : k.length < 1
      · exact .inl g1
      · by_cases g2 : 256 < k.length
        · exact .inr (.inl g2)
        · by_cases g3 : a.c = 0
          · exact .inr (.inr (.inl g3))
          · exact .inr (.inr (.inr (by
              cases g4 : rightF a with
              | false => rfl
              | true => exact absurd ⟨by omega, by omega, g3, g4⟩ hg)))
    · rintro e w' ⟨⟨z, rfl⟩, hb'⟩
      have := hI.below hb'
      exact ⟨z, ns, rfl, this.sk, this.gd, by have := this.ln; omega, this.be, this.bs⟩
/-- What both tell of a key. -/
def gF (kas : Kas) (k : List Int) : Ag × Bool := headK (seekF kas k 1) k
theorem lget_c {fz : Bool} {w : World} {base L c : Nat} {A : Option Addr} {k : List Int} {ns : List Nd} (hsk : SkAt fz w base L ns) (hlen : ns.length ≤ 80) (hk : RdB w A k) (hkc : k.length ≤ c) (hb : Byt k) :
    Calls Try.prog 14 #[ptr L, .slice A k.length c] w fun e w' => e = .returned (.tuple #[(gF (cont ns) k).1.v, .bool (gF (cont ns) k).2]) ∧ Below w.heap.size w w' := by
  obtain ⟨P, S, rfl, hP, hS⟩ := part k ns hsk.srt
  have hg : headG S k = gF (cont (P ++ S)) k := by
    unfold gF
    rw [seek_part 1 hP hS]
    exact headG_eq S k
  rw [← hg]
  exact get_c hsk (by simp at hlen; omega) hk hkc hb hP hS
theorem ttget_c {w : World} {base T c : Nat} {A : Option Addr} {k : List Int} {kas : Kas} (h : TbAt w base T kas) (hok : EOk kas) (hn : kas.length ≤ 80) (hk : RdB w A k) (hkc : k.length ≤ c) (hkl : k.length ≤ 1000000) (hb : Byt k) :
    Calls Try.prog 15 #[.pointer (some ⟨T, 0, none⟩), .slice A k.length c] w fun e w' => e = .returned (.tuple #[(gF kas k).1.v, .bool (gF kas k).2]) ∧ Below w.heap.size w w' := by
  have h := tget_c h hok hn hk hkc hkl hb
  rw [tget_eq] at h
  exact h
theorem lseek_c {fz : Bool} {w : World} {base L c m : Nat} {A : Option Addr} {k : List Int} {ns : List Nd} (hsk : SkAt fz w base L ns) (hlen : ns.length ≤ 80) (hk : RdB w A k) (hb : Byt k) (hm1 : 1 ≤ m) :
    Calls Try.prog 18 #[ptr L, .slice A k.length c, .int .i64 m] w fun e w' => ∃ (v : Value) (xs : List Ent), e = .returned v ∧ w'.ownsRow w.heap.size 36 7 v xs.length (xs.flatMap Ent.cells) ∧ xs.map Ent.ka = seekF (cont ns) k m ∧ (∀ x ∈ xs, EntOk w.heap.size w' x ∧ x.k.length ≤ x.c) ∧ Below w.heap.size w w' := by
  obtain ⟨P, S, rfl, hP, hS⟩ := part k ns hsk.srt
  refine (seek_c (c := c) hsk (by simp at hlen; omega) hk hb hP hS hm1).mono ?_
  rintro e w' ⟨v, xs, rfl, h1, ⟨h2, h3⟩, h4⟩
  exact ⟨v, xs, rfl, h1, by rw [seek_part m hP hS]; exact h2, h3, h4⟩
/-- What both tell from a key on, whatever is asked for. -/
def sF (kas : Kas) (k : List Int) (m : Int) : Kas := if m < 1 then [] else seekF kas k m.toNat
def SkR (w : World) (Z : Kas) (e : Ending) (w' : World) : Prop := ∃ (R : Option Addr) (c b : Nat) (xs : List Ent), e = .returned (.slice R xs.length c) ∧ (xs ≠ [] → R = some ⟨b, 0, none⟩) ∧ ERow w' b 0 xs ∧ xs.map Ent.ka = Z ∧ Below w.heap.size w w'
theorem SkR.nil (w w' : World) (h : Below w.heap.size w w') : SkR w [] (.returned (.slice none 0 0)) w' := ⟨none, 0, 0, [], rfl, fun h => absurd rfl h, ⟨fun j hj => by simp at hj, fun x hx => (List.not_mem_nil hx).elim⟩, rfl, h⟩
theorem sk_any {fz : Bool} {w : World} {base L c : Nat} {m : Int} {A : Option Addr} {k : List Int} {ns : List Nd} (hsk : SkAt fz w base L ns) (hgd : ∀ n ∈ ns, Gd n.a) (hlen : ns.length ≤ 80) (hk : RdB w A k) (hb : Byt k) :
    Calls Try.prog 18 #[ptr L, .slice A k.length c, .int .i64 m] w (SkR w (sF (cont ns) k m)) := by
  unfold sF
  by_cases h1 : m < 1
  · rw [if_pos h1]
    refine (seek_none h1).mono ?_
    rintro e w' ⟨rfl, h⟩
    exact SkR.nil _ _ h
  · rw [if_neg h1]
    have hok := eok_cont hsk hgd hlen
    have h := lseek_c (c := c) (m := m.toNat) hsk hlen hk hb (by omega)
    rw [show ((m.toNat : Nat) : Int) = m by omega] at h
    refine h.mono ?_
    rintro e w' ⟨v, xs, rfl, ho, hx, he, h⟩
    obtain ⟨R, c', b, rfl, hR, hE, _⟩ := row_er ho (fun x hx' => ent_rd (he x hx').1 (he x hx').2 (hok.k x.ka (by
      have : x.ka ∈ seekF (cont ns) k m.toNat := by rw [← hx]; exact List.mem_map.2 ⟨x, hx', rfl⟩
      exact (List.mem_filter.1 (List.mem_of_mem_take this)).1)).2.1)
    exact ⟨R, c', b, xs, rfl, hR, hE, hx, h⟩
theorem tk_any {w : World} {base T c : Nat} {m : Int} {A : Option Addr} {k : List Int} {kas : Kas} (h : TbAt w base T kas) (hok : EOk kas) (hn : kas.length ≤ 80) (hk : RdB w A k) (hb : Byt k) :
    Calls Try.prog 19 #[.pointer (some ⟨T, 0, none⟩), .slice A k.length c, .int .i64 m] w (SkR w (sF kas k m)) := by
  unfold sF
  by_cases h1 : m < 1
  · rw [if_pos h1]
    refine (tseek_none h1).mono ?_
    rintro e w' ⟨rfl, h⟩
    exact SkR.nil _ _ h
  · rw [if_neg h1]
    have h := tseek_c (c := c) (m := m.toNat) h hok hn hk hb (by omega)
    rw [show ((m.toNat : Nat) : Int) = m by omega] at h
    refine h.mono ?_
    rintro e w' ⟨v, xs, rfl, ho, hx, he, h⟩
    obtain ⟨R, c', b, rfl, hR, hE, _⟩ := row_er ho (fun x hx' => (he x hx').rd)
    exact ⟨R, c', b, xs, rfl, hR, hE, hx, h⟩
/-- What the last loop holds: the two boxes stand; the rest is as it was. -/
structure TlR (w6 : World) (p q : Nat) (W : World) : Prop where
  be : Below w6.heap.size w6 W
  ps : w6.heap.size ≤ p
  qs : w6.heap.size ≤ q
  ne : p ≠ q
  pc : ∃ v0 v1 v2 v3 v4 v5 : Value, W.heap[p]? = some (.cells #[v0, v1, v2, v3, v4, v5] 34 (0, 0))
  qc : ∃ v0 v1 v2 v3 v4 v5 : Value, W.heap[q]? = some (.cells #[v0, v1, v2, v3, v4, v5] 34 (0, 0))
theorem TlR.below {w6 W W1 : World} {p q : Nat} (h : TlR w6 p q W) (hb : Below W.heap.size W W1) : TlR w6 p q W1 := by
  obtain ⟨v0, v1, v2, v3, v4, v5, hp⟩ := h.pc
  obtain ⟨u0, u1, u2, u3, u4, u5, hq⟩ := h.qc
  exact ⟨h.be.trans (hb.mono h.be.size), h.ps, h.qs, h.ne, ⟨_, _, _, _, _, _, (hb.block _ (blk_lt hp)).trans hp⟩, ⟨_, _, _, _, _, _, (hb.block _ (blk_lt hq)).trans hq⟩⟩
theorem TlR.setp {w6 W : World} {p q : Nat} (h : TlR w6 p q W) (v0 v1 v2 v3 v4 v5 : Value) : TlR w6 p q ((((((W.setCell ⟨p, 0, none⟩ v0).setCell ⟨p, 1, none⟩ v1).setCell ⟨p, 2, none⟩ v2).setCell ⟨p, 3, none⟩ v3).setCell ⟨p, 4, none⟩ v4).setCell ⟨p, 5, none⟩ v5) ∧
    ((((((W.setCell ⟨p, 0, none⟩ v0).setCell ⟨p, 1, none⟩ v1).setCell ⟨p, 2, none⟩ v2).setCell ⟨p, 3, none⟩ v3).setCell ⟨p, 4, none⟩ v4).setCell ⟨p, 5, none⟩ v5).heap[p]? = some (.cells #[v0, v1, v2, v3, v4, v5] 34 (0, 0)) ∧
    ∀ k, k ≠ p → ((((((W.setCell ⟨p, 0, none⟩ v0).setCell ⟨p, 1, none⟩ v1).setCell ⟨p, 2, none⟩ v2).setCell ⟨p, 3, none⟩ v3).setCell ⟨p, 4, none⟩ v4).setCell ⟨p, 5, none⟩ v5).heap[k]? = W.heap[k]? := by
  have far : ∀ k, k ≠ p → ((((((W.setCell ⟨p, 0, none⟩ v0).setCell ⟨p, 1, none⟩ v1).setCell ⟨p, 2, none⟩ v2).setCell ⟨p, 3, none⟩ v3).setCell ⟨p, 4, none⟩ v4).setCell ⟨p, 5, none⟩ v5).heap[k]? = W.heap[k]? := fun k hk => by
    rw [Below.heap_setCell _ _ _ _ hk, Below.heap_setCell _ _ _ _ hk, Below.heap_setCell _ _ _ _ hk, Below.heap_setCell _ _ _ _ hk, Below.heap_setCell _ _ _ _ hk, Below.heap_setCell _ _ _ _ hk]
  obtain ⟨u0, u1, u2, u3, u4, u5, hp⟩ := h.pc
  have hs := blk_six hp v0 v1 v2 v3 v4 v5
  obtain ⟨a0, a1, a2, a3, a4, a5, hq⟩ := h.qc
  exact ⟨⟨below_six h.be h.ps _ _ _ _ _ _, h.ps, h.qs, h.ne, ⟨_, _, _, _, _, _, hs⟩, ⟨_, _, _, _, _, _, (far _ (Ne.symm h.ne)).trans hq⟩⟩, hs, far⟩
theorem TlR.swap {w6 W : World} {p q : Nat} (h : TlR w6 p q W) : TlR w6 q p W := ⟨h.be, h.qs, h.ps, Ne.symm h.ne, h.qc, h.pc⟩
theorem TlR.setq {w6 W : World} {p q : Nat} (h : TlR w6 p q W) (v0 v1 v2 v3 v4 v5 : Value) : TlR w6 p q ((((((W.setCell ⟨q, 0, none⟩ v0).setCell ⟨q, 1, none⟩ v1).setCell ⟨q, 2, none⟩ v2).setCell ⟨q, 3, none⟩ v3).setCell ⟨q, 4, none⟩ v4).setCell ⟨q, 5, none⟩ v5) ∧
    ((((((W.setCell ⟨q, 0, none⟩ v0).setCell ⟨q, 1, none⟩ v1).setCell ⟨q, 2, none⟩ v2).setCell ⟨q, 3, none⟩ v3).setCell ⟨q, 4, none⟩ v4).setCell ⟨q, 5, none⟩ v5).heap[q]? = some (.cells #[v0, v1, v2, v3, v4, v5] 34 (0, 0)) ∧
    ∀ k, k ≠ q → ((((((W.setCell ⟨q, 0, none⟩ v0).setCell ⟨q, 1, none⟩ v1).setCell ⟨q, 2, none⟩ v2).setCell ⟨q, 3, none⟩ v3).setCell ⟨q, 4, none⟩ v4).setCell ⟨q, 5, none⟩ v5).heap[k]? = W.heap[k]? :=
  ⟨(h.swap.setp v0 v1 v2 v3 v4 v5).1.swap, (h.swap.setp v0 v1 v2 v3 v4 v5).2⟩
structure InOk (l : List Lib.S36) : Prop where
  k : ∀ x ∈ l, Byt x.f0
  o : ∀ x ∈ l, (agOf x.f1).ok
  mn : ∀ x ∈ l, -9223372036854775808 ≤ (agOf x.f1).mn ∧ (agOf x.f1).mn < 9223372036854775808
  mx : ∀ x ∈ l, -9223372036854775808 ≤ (agOf x.f1).mx ∧ (agOf x.f1).mx < 9223372036854775808
set_option maxRecDepth 100000 in
set_option maxHeartbeats 8000000 in
theorem law_walk {w : World} {A B C : Option Addr} {c d f : Nat} {l : List Lib.S36} {tw ask : List Int} {most : Int} (hA : RdE w A l) (hc : l.length ≤ c) (hB : RdB w B tw) (hd : tw.length ≤ d) (hC : RdB w C ask) (hf : ask.length ≤ f) (hak : Byt ask) (hin : InOk l) (hm : -9223372036854775808 ≤ most ∧ most < 9223372036854775808) :
    Calls Try.prog 3 #[.slice A l.length c, .slice B tw.length d, .slice C ask.length f, .int .i64 most] w fun e w' => e = .returned (.bool true) ∧ Below w.heap.size w w' := by
  obtain ⟨r, hgr, hgk⟩ := great_c (l := l) (by have := hA.2.1; omega)
  have HGR := Aside0.mk hgr
  have HGK := Aside0.mk hgk
  have HA := Aside0.mk hA
  have HB := Aside0.mk hB
  have HC := Aside0.mk hC
  have HIN := Aside0.mk hin
  have HAK := Aside0.mk hak
  have HM := Aside0.mk hm
  clear hA hB hC hin hak hm hgr hgk
  go_enter Try.func3, Try.ntmps3
  go_upto_region 2 with (first
    | (go_at_call 4; refine (skip_new _).mono ?_; rintro e w1 ⟨rfl, hsk, hb1⟩; unfold ptr)
    | fail)
  cases r with
  | true =>
    go_wp2_with (first
      | (go_at_call 5; refine (HGR.out A c w1 (Kd.C_below HA.out hb1) hc).mono ?_; rintro e w2 ⟨rfl, hb2⟩)
      | (go_at_call 6; refine (alive_c _).mono ?_; rintro e w3 ⟨rfl, hb3⟩)
      | fail)
    go_ret
    exact ⟨rfl, (hb1.trans (hb2.mono hb1.size)).trans (hb3.mono (Nat.le_trans hb1.size hb2.size))⟩
  | false =>
  by_cases hl : l.length ≤ 80
  case neg =>
    have d1 : decide ((80 : Int) < (l.length : Int)) = true := decide_eq_true (by omega)
    have d2 : decide (80 < l.length) = true := decide_eq_true (by omega)
    go_wp2_with (first
      | (go_at_call 5; refine (HGR.out A c w1 (Kd.C_below HA.out hb1) hc).mono ?_; rintro e w2 ⟨rfl, hb2⟩)
      | (go_at_call 6; refine (alive_c _).mono ?_; rintro e w3 ⟨rfl, hb3⟩)
      | fail)
    go_ret
    exact ⟨rfl, (hb1.trans (hb2.mono hb1.size)).trans (hb3.mono (Nat.le_trans hb1.size hb2.size))⟩
  have d1 : decide ((80 : Int) < (l.length : Int)) = false := decide_eq_false (by omega)
  have d2 : decide (80 < l.length) = false := decide_eq_false (by omega)
  by_cases ha : ask.length ≤ 300
  case neg =>
    have d3 : decide ((300 : Int) < (ask.length : Int)) = true := decide_eq_true (by omega)
    have d4 : decide (300 < ask.length) = true := decide_eq_true (by omega)
    go_wp2_with (first
      | (go_at_call 5; refine (HGR.out A c w1 (Kd.C_below HA.out hb1) hc).mono ?_; rintro e w2 ⟨rfl, hb2⟩)
      | (go_at_call 6; refine (alive_c _).mono ?_; rintro e w3 ⟨rfl, hb3⟩)
      | fail)
    go_ret
    exact ⟨rfl, (hb1.trans (hb2.mono hb1.size)).trans (hb3.mono (Nat.le_trans hb1.size hb2.size))⟩
  have d3 : decide ((300 : Int) < (ask.length : Int)) = false := decide_eq_false (by omega)
  have d4 : decide (300 < ask.length) = false := decide_eq_false (by omega)
  go_wp2_with (first
      | (go_at_call 5; refine (HGR.out A c w1 (Kd.C_below HA.out hb1) hc).mono ?_; rintro e w2 ⟨rfl, hb2⟩)
      | (go_at_call 6; refine (alive_c _).mono ?_; rintro e w3 ⟨rfl, hb3⟩)
      | fail)
  have hI0 : TlI w w2.heap.size w.heap.size 0 [] w2 := ⟨(hsk _).below hb2, (fun _ h => (List.not_mem_nil h).elim), Nat.le_refl _, hb1.trans (hb2.mono hb1.size), Nat.le_refl _⟩
  have hbw : w.heap.size ≤ w2.heap.size := Nat.le_trans hb1.size hb2.size
  clear d1 d2 d3 d4 hsk hb1 hb2
  generalize w2.heap.size = base at hI0 hbw
  go_loopw [10] (fun i wr => ∃ (j : Nat) (ns : List Nd), j ≤ l.length ∧ i = .int .i64 j ∧ Aside0 (TlI w base w.heap.size j ns wr)) (fun i _ => l.length - (intOf i).toNat)
  case atStart => exact ⟨0, [], by omega, rfl, ⟨hI0⟩⟩
  case round =>
    clear hI0
    obtain ⟨j, ns, hj, rfl, HI⟩ := hrel
    by_cases hlt : j < l.length
    · have t1 : decide (j < l.length) = true := decide_eq_true hlt
      obtain ⟨ad, A0, c0, rfl, x0, x1, x2, x3, x4, x5, x6, hc0, hrk⟩ := entry_at HA.out HI.out.be hlt
      have hkb := HIN.out.k _ (List.getElem_mem hlt)
      have hio := HIN.out.o _ (List.getElem_mem hlt)
      have hmn := HIN.out.mn _ (List.getElem_mem hlt)
      have hmx := HIN.out.mx _ (List.getElem_mem hlt)
      generalize l[j].f0 = k at *
      generalize agOf l[j].f1 = a at *
      have hput : ∀ h : Nat, 1 ≤ h → h ≤ 8 → _ := fun h hh1 hh2 => put_any (h := h) HI.out hbw (Nat.le_refl _) (by omega) hrk hc0 hkb hh1 hh2 hio hmn hmx
      have HPUT := Aside0.mk hput
      obtain ⟨ac, ao, ah, al, an, ax⟩ := a
      simp only at x1 x2 x3 x4 x5 x6
      clear hkb hio hmn hmx hrk hput
      unfold entV ptr at HPUT
      by_cases htj : j < tw.length
      · have t2 : decide (j < tw.length) = true := decide_eq_true htj
        obtain ⟨bd, rfl, hbc⟩ := Kd.at_int (HB.out.below HI.out.be) (j : Int) (by omega) (by omega)
        rw [Int.toNat_natCast] at hbc
        obtain ⟨h, hh1, hh2, hh⟩ := tower (rd tw j)
        have HPU := Aside0.mk (HPUT.out h hh1 hh2)
        go_wp2_with (first
          | (go_at_call 7; refine HPU.out.mono ?_; rintro e w5 ⟨z, ns', rfl, hI5⟩)
          | fail)
        go_roundw
        case rel => exact ⟨j + 1, ns', by omega, by go_num, ⟨hI5⟩⟩
        case measure => simp [intOf]; omega
      · have t2 : decide (j < tw.length) = false := decide_eq_false htj
        have HPU := Aside0.mk (HPUT.out 1 (by omega) (by omega))
        rw [show ((1 : Nat) : Int) = 1 from rfl] at HPU
        go_wp2_with (first
          | (go_at_call 7; refine HPU.out.mono ?_; rintro e w5 ⟨z, ns', rfl, hI5⟩)
          | fail)
        go_roundw
        case rel => exact ⟨j + 1, ns', by omega, by go_num, ⟨hI5⟩⟩
        case measure => simp [intOf]; omega
    · obtain rfl : j = l.length := by omega
      have t1 : decide (l.length < l.length) = false := decide_eq_false hlt
      have hI := HI.out
      have hnl : ns.length ≤ 80 := by have := hI.ln; omega
      have hfz := freeze_c hI.sk
      unfold ptr at hfz
      have HFZ := Aside0.mk hfz
      clear hfz
      go_upto_region 14 with (first
        | (go_at_call 8
           refine HFZ.out.mono ?_
           rintro e w3 ⟨rfl, hs3, hw3⟩
           have hB3 : Below w.heap.size w w3 := by rw [hw3]; exact hI.be.setCell (p := ⟨w.heap.size, 17, none⟩) (Nat.le_refl _) _
           clear hw3
           have hal := all_c hs3 (by omega)
           unfold ptr at hal
           have HAL := Aside0.mk hal
           clear hal)
        | (go_at_call 10
           refine HAL.out.mono ?_
           rintro e w4 ⟨v4, xs, rfl, ho4, ⟨hx4, hxe4⟩, hb4⟩
           have hs4 := hs3.below hb4
           have hok := eok_cont hs4 hI.gd hnl
           have hx4' : xs.map Ent.ka = cont ns := hx4
           have hxl80 : xs.length ≤ 80 := by have := congrArg List.length hx4; simp only [cont, List.length_map] at this; omega
           obtain ⟨R4, c4, b4, rfl, hR4, hE4, hc4⟩ := row_er ho4 (fun x hx => ent_rd (hxe4 x hx).1 (hxe4 x hx).2 (hok.k x.ka (by rw [← hx4']; exact List.mem_map.2 ⟨x, hx, rfl⟩)).2.1)
           have hkl : (cont ns).length ≤ 80 := by simp only [cont, List.length_map]; exact hnl
           obtain ⟨kas, hkas⟩ : ∃ kas, kas = cont ns := ⟨_, rfl⟩
           rw [← hkas] at hx4' hok hkl
           have HKAS := Aside0.mk hkas
           have HWR := Aside0.mk (twrite_c hR4 hE4 hc4 hx4' hok (by omega))
           have HOK := Aside0.mk hok
           clear ho4 hx4 hxe4 hx4' hR4 hE4 hok hkas)
        | (go_at_call 9
           refine HWR.out.mono ?_
           rintro e w5 ⟨v5, rfl, ho5, hb5⟩
           obtain ⟨a5, c5, rfl, hr5, hc5⟩ := own_b ho5 (table_pos _)
           have HOP := Aside0.mk (topen_c hr5 (own_typed ho5 a5.block rfl) hc5 HOK.out hkl)
           clear ho5 hr5 hc5
           generalize (tableF kas).length = LT at HOP ⊢)
        | (go_at_call 11
           refine HOP.out.mono ?_
           rintro e w6 ⟨T, rfl, hT6, hb6⟩)
        | fail)
      clear HFZ HAL HWR HOP hs3
      have hs6 := (hs4.below hb5).below hb6
      have hB6 : Below w.heap.size w w6 := ((hB3.trans (hb4.mono hB3.size)).trans (hb5.mono (Nat.le_trans hB3.size hb4.size))).trans (hb6.mono (Nat.le_trans (Nat.le_trans hB3.size hb4.size) hb5.size))
      have hkn : kas.length = ns.length := by rw [HKAS.out]; simp [cont]
      have htl := tlen_c hT6
      rw [hkn] at htl
      have HTL := Aside0.mk htl
      have HS6 := Aside0.mk hs6
      have HT6 := Aside0.mk hT6
      clear htl hs6 hT6 hs4 hkn hB3 hb4 hb5 hb6
      go_upto_region 16 with (first
        | (go_at_call 12
           refine HTL.out.mono ?_
           rintro e w7 ⟨rfl, hb7⟩
           have hsl := slen_c (HS6.out.below hb7)
           unfold ptr at hsl
           have HSL := Aside0.mk hsl
           clear hsl)
        | (go_at_call 13
           refine HSL.out.mono ?_
           rintro e w8 ⟨rfl, hb8⟩)
        | fail)
      obtain ⟨⟨⟨ac, ao, ah, al, an, ax⟩, gb⟩, hg⟩ : ∃ g, gF kas ask = g := ⟨_, rfl⟩
      have h68 : Below w6.heap.size w6 w8 := hb7.trans (hb8.mono hb7.size)
      have hB8 : Below w.heap.size w w8 := hB6.trans (h68.mono hB6.size)
      have hget := lget_c (c := f) (HS6.out.below h68) hnl (HC.out.below hB8) hf HAK.out
      rw [← HKAS.out, hg] at hget
      unfold Ag.v ptr at hget
      simp only at hget
      have HGET := Aside0.mk hget
      have HG := Aside0.mk hg
      clear hget hg HTL HSL hb7 hb8
      go_upto_region 18 with (first
        | (go_at_call 14
           refine HGET.out.mono ?_
           rintro e w9 ⟨rfl, hb9⟩
           have hBa := hb9.alloc hb9.size (.cells #[.int .u64 ac, .bool ao, .int .i64 ah, .int .u64 al, .int .i64 an, .int .i64 ax] 34)
           have hTg := ttget_c (c := f) (HT6.out.below (h68.trans (hBa.mono h68.size))) HOK.out hkl (HC.out.below (hB8.trans (hBa.mono hB8.size))) hf (by omega) HAK.out
           rw [HG.out] at hTg
           unfold Ag.v at hTg
           simp only at hTg
           have HTG := Aside0.mk hTg
           clear hTg)
        | (go_at_call 15
           refine HTG.out.mono ?_
           rintro e w10 ⟨rfl, hb10⟩)
        | fail)
      have hn9 := al_new (W := w9) (o := (.cells #[.int .u64 ac, .bool ao, .int .i64 ah, .int .u64 al, .int .i64 an, .int .i64 ax] 34)) (k := w9.heap.size) rfl
      have hp1 := al_old ((hb10.block _ (blk_lt hn9)).trans hn9) (.cells #[.int .u64 ac, .bool ao, .int .i64 ah, .int .u64 al, .int .i64 an, .int .i64 ax] 34)
      have hq1 := al_new (W := w10) (o := (.cells #[.int .u64 ac, .bool ao, .int .i64 ah, .int .u64 al, .int .i64 an, .int .i64 ax] 34)) (k := w10.heap.size) rfl
      have hpz : w6.heap.size ≤ w9.heap.size := Nat.le_trans h68.size hb9.size
      have hqz : w9.heap.size < w10.heap.size := by have := hb10.size; rw [World.size_alloc] at this; omega
      have h810 : Below w8.heap.size w8 w10 := hBa.trans (hb10.mono hBa.size)
      have h8W := h810.alloc h810.size (.cells #[.int .u64 ac, .bool ao, .int .i64 ah, .int .u64 al, .int .i64 an, .int .i64 ax] 34)
      have hBW := hB8.trans (h8W.mono hB8.size)
      have H6W := Aside0.mk (h68.trans (h8W.mono h68.size))
      have HB6 := Aside0.mk hB6
      have HTW := Aside0.mk (HT6.out.below (h68.trans (h8W.mono h68.size)))
      have HSW := Aside0.mk (HS6.out.below (h68.trans (h8W.mono h68.size)))
      clear HGET HTG hn9 h810 h8W hb9 hb10 hBa h68 hB8 hB6
      generalize w10.alloc (.cells #[.int .u64 ac, .bool ao, .int .i64 ah, .int .u64 al, .int .i64 an, .int .i64 ax] 34) = W at *
      generalize w9.heap.size = p at *
      generalize w10.heap.size = q at *
      have x0 : W.cell? ⟨p, 0, none⟩ = some (.int .u64 ac) := (blk_cell hp1 0).trans rfl
      have x1 : W.cell? ⟨p, 1, none⟩ = some (.bool ao) := (blk_cell hp1 1).trans rfl
      have x2 : W.cell? ⟨p, 2, none⟩ = some (.int .i64 ah) := (blk_cell hp1 2).trans rfl
      have x3 : W.cell? ⟨p, 3, none⟩ = some (.int .u64 al) := (blk_cell hp1 3).trans rfl
      have x4 : W.cell? ⟨p, 4, none⟩ = some (.int .i64 an) := (blk_cell hp1 4).trans rfl
      have x5 : W.cell? ⟨p, 5, none⟩ = some (.int .i64 ax) := (blk_cell hp1 5).trans rfl
      have y0 : W.cell? ⟨q, 0, none⟩ = some (.int .u64 ac) := (blk_cell hq1 0).trans rfl
      have y1 : W.cell? ⟨q, 1, none⟩ = some (.bool ao) := (blk_cell hq1 1).trans rfl
      have y2 : W.cell? ⟨q, 2, none⟩ = some (.int .i64 ah) := (blk_cell hq1 2).trans rfl
      have y3 : W.cell? ⟨q, 3, none⟩ = some (.int .u64 al) := (blk_cell hq1 3).trans rfl
      have y4 : W.cell? ⟨q, 4, none⟩ = some (.int .i64 an) := (blk_cell hq1 4).trans rfl
      have y5 : W.cell? ⟨q, 5, none⟩ = some (.int .i64 ax) := (blk_cell hq1 5).trans rfl
      have hmy : gb = true → mayF (fltF kas) ask 6 = true := fun h => tget_may (by rw [tget_eq]; show (gF kas ask).2 = true; rw [HG.out]; exact h)
      have hmc := tmay_c (c := f) HTW.out (HC.out.below hBW) (by omega) HAK.out
      have HMC := Aside0.mk hmc
      have HMY := Aside0.mk hmy
      have HBW := Aside0.mk hBW
      clear hmc hmy hBW
      go_cut [133] (fun s133 Wx => s133 = .bool false ∧ Below W.heap.size W Wx)
      case first =>
        cases gb with
        | false =>
          go_wp2_with (first
            | (go_at_call 18
               have h1 := sk_any (c := f) (m := most) HSW.out hI.gd hnl (HC.out.below HBW.out) HAK.out
               unfold ptr at h1
               refine h1.mono ?_
               rintro e wa ⟨R1, c1, b1, xs1, rfl, hR1, hE1, hx1, hba⟩
               clear h1
               have H2 := Aside0.mk (tk_any (c := f) (m := most) (HTW.out.below hba) HOK.out hkl (HC.out.below (HBW.out.trans (hba.mono HBW.out.size))) HAK.out))
            | (go_at_call 19
               refine H2.out.mono ?_
               rintro e wb ⟨R2, c2, b2, xs2, rfl, hR2, hE2, hx2, hbb⟩
               have hxx : xs1.map Ent.ka = xs2.map Ent.ka := by rw [hx1, hx2, HKAS.out]
               have hby : ∀ x ∈ xs1, Byt x.k ∧ x.k.length ≤ 256 := fun x hx => by
                 have hm : x.ka ∈ sF kas ask most := by rw [HKAS.out, ← hx1]; exact List.mem_map.2 ⟨x, hx, rfl⟩
                 have hk : x.ka ∈ kas := by
                   unfold sF at hm
                   split at hm
                   · cases hm
                   · exact (List.mem_filter.1 (List.mem_of_mem_take hm)).1
                 exact ⟨(HOK.out.k _ hk).1, (HOK.out.k _ hk).2.2⟩
               have hle : xs1.length ≤ 80 := by
                 have h1 : xs1.length = (sF (cont ns) ask most).length := by rw [← hx1, List.length_map]
                 rw [h1, ← HKAS.out]
                 unfold sF
                 split
                 · exact Nat.zero_le _
                 · exact Nat.le_trans (seekF_le _ _ _) hkl
               have H3 := Aside0.mk (same_c (c := c1) (d := c2) hR1 hR2 (hE1.below hbb) hE2 hxx (by omega) hby))
            | (go_at_call 17
               refine H3.out.mono ?_
               rintro e wc ⟨rfl, hbc⟩)
            | fail)
          go_meet
          case rel => exact ⟨rfl, (hba.trans (hbb.mono hba.size)).trans (hbc.mono (Nat.le_trans hba.size hbb.size))⟩
        | true =>
          rw [HMY.out rfl] at HMC
          go_wp2_with (first
            | (go_at_call 16; refine HMC.out.mono ?_; rintro e wm ⟨rfl, hbm⟩)
            | (go_at_call 18
               have h1 := sk_any (c := f) (m := most) (HSW.out.below hbm) hI.gd hnl (HC.out.below (HBW.out.trans (hbm.mono HBW.out.size))) HAK.out
               unfold ptr at h1
               refine h1.mono ?_
               rintro e wa ⟨R1, c1, b1, xs1, rfl, hR1, hE1, hx1, hba⟩
               clear h1
               have H2 := Aside0.mk (tk_any (c := f) (m := most) (HTW.out.below (hbm.trans (hba.mono hbm.size))) HOK.out hkl (HC.out.below (HBW.out.trans ((hbm.trans (hba.mono hbm.size)).mono HBW.out.size))) HAK.out))
            | (go_at_call 19
               refine H2.out.mono ?_
               rintro e wb ⟨R2, c2, b2, xs2, rfl, hR2, hE2, hx2, hbb⟩
               have hxx : xs1.map Ent.ka = xs2.map Ent.ka := by rw [hx1, hx2, HKAS.out]
               have hby : ∀ x ∈ xs1, Byt x.k ∧ x.k.length ≤ 256 := fun x hx => by
                 have hm : x.ka ∈ sF kas ask most := by rw [HKAS.out, ← hx1]; exact List.mem_map.2 ⟨x, hx, rfl⟩
                 have hk : x.ka ∈ kas := by
                   unfold sF at hm
                   split at hm
                   · cases hm
                   · exact (List.mem_filter.1 (List.mem_of_mem_take hm)).1
                 exact ⟨(HOK.out.k _ hk).1, (HOK.out.k _ hk).2.2⟩
               have hle : xs1.length ≤ 80 := by
                 have h1 : xs1.length = (sF (cont ns) ask most).length := by rw [← hx1, List.length_map]
                 rw [h1, ← HKAS.out]
                 unfold sF
                 split
                 · exact Nat.zero_le _
                 · exact Nat.le_trans (seekF_le _ _ _) hkl
               have H3 := Aside0.mk (same_c (c := c1) (d := c2) hR1 hR2 (hE1.below hbb) hE2 hxx (by omega) hby))
            | (go_at_call 17
               refine H3.out.mono ?_
               rintro e wc ⟨rfl, hbc⟩)
            | fail)
          go_meet
          case rel => exact ⟨rfl, ((hbm.trans (hba.mono hbm.size)).trans (hbb.mono (Nat.le_trans hbm.size hba.size))).trans (hbc.mono (Nat.le_trans (Nat.le_trans hbm.size hba.size) hbb.size))⟩
      case rest =>
        obtain ⟨rfl, hBx⟩ := hcut
        rename World => Wx
        have hR0 : TlR w6 p q Wx := ⟨H6W.out.trans (hBx.mono H6W.out.size), hpz, by omega, by omega, ⟨_, _, _, _, _, _, (hBx.block _ (blk_lt hp1)).trans hp1⟩, ⟨_, _, _, _, _, _, (hBx.block _ (blk_lt hq1)).trans hq1⟩⟩
        have HR0 := Aside0.mk hR0
        clear hR0 hBx HTW HSW HMC HMY HBW H6W hp1 hq1 x0 x1 x2 x3 x4 x5 y0 y1 y2 y3 y4 y5 HG hpz hqz
        go_wp2_with fail
        go_loopw [20] (fun i wz => ∃ (j : Nat), j ≤ l.length ∧ i = .int .i64 j ∧ Aside0 (TlR w6 p q wz)) (fun i _ => l.length - (intOf i).toNat)
        case atStart => exact ⟨0, by omega, rfl, HR0⟩
        case round =>
          clear HR0
          obtain ⟨j, hj, rfl, HR⟩ := hrel
          rename World => wz
          by_cases hlt : j < l.length
          · have t1 : decide (j < l.length) = true := decide_eq_true hlt
            have hR := HR.out
            obtain ⟨ad, A0, c0, rfl, z0, z1, z2, z3, z4, z5, z6, hc0, hrk⟩ := entry_at HA.out HB6.out hlt
            clear z1 z2 z3 z4 z5 z6
            have hkb := HIN.out.k _ (List.getElem_mem hlt)
            have hk1 := HGK.out (by first | rfl | trivial) j hlt
            generalize l[j].f0 = k at *
            obtain ⟨⟨⟨gc, go, gh, gl, gn, gx⟩, gb⟩, hg⟩ : ∃ g, gF kas k = g := ⟨_, rfl⟩
            have hget := lget_c (c := c0) (HS6.out.below hR.be) hnl (hrk.below hR.be) hc0 hkb
            rw [← HKAS.out, hg] at hget
            unfold Ag.v ptr at hget
            simp only at hget
            have HGET := Aside0.mk hget
            have HZ0 := Aside0.mk z0
            have HG := Aside0.mk hg
            have HRK := Aside0.mk hrk
            have y0 := cell_below hR.be z0
            clear hget z0 hg hrk
            obtain ⟨u0, u1, u2, u3, u4, u5, hp⟩ := hR.pc
            go_upto_region 24 with (first
              | (go_at_call 14
                 refine HGET.out.mono ?_
                 rintro e wa ⟨rfl, hba⟩
                 have hRa := hR.below hba
                 have hpa := (hba.block _ (blk_lt hp)).trans hp
                 have f0 := blk_frozen hpa 0
                 have f1 := blk_frozen hpa 1
                 have f2 := blk_frozen hpa 2
                 have f3 := blk_frozen hpa 3
                 have f4 := blk_frozen hpa 4
                 have f5 := blk_frozen hpa 5
                 have q0 : wa.cell? ⟨p, 0, none⟩ = some u0 := (blk_cell hpa 0).trans rfl
                 have q1 : wa.cell? ⟨p, 1, none⟩ = some u1 := (blk_cell hpa 1).trans rfl
                 have q2 : wa.cell? ⟨p, 2, none⟩ = some u2 := (blk_cell hpa 2).trans rfl
                 have q3 : wa.cell? ⟨p, 3, none⟩ = some u3 := (blk_cell hpa 3).trans rfl
                 have q4 : wa.cell? ⟨p, 4, none⟩ = some u4 := (blk_cell hpa 4).trans rfl
                 have q5 : wa.cell? ⟨p, 5, none⟩ = some u5 := (blk_cell hpa 5).trans rfl)
              | fail)
            obtain ⟨hR2, hp2, far2⟩ := hRa.setp (.int .u64 gc) (.bool go) (.int .i64 gh) (.int .u64 gl) (.int .i64 gn) (.int .i64 gx)
            clear f0 f1 f2 f3 f4 f5 q0 q1 q2 q3 q4 q5 y0 hpa HGET hp
            generalize (((((wa.setCell ⟨p, 0, none⟩ (.int .u64 gc)).setCell ⟨p, 1, none⟩ (.bool go)).setCell ⟨p, 2, none⟩ (.int .i64 gh)).setCell ⟨p, 3, none⟩ (.int .u64 gl)).setCell ⟨p, 4, none⟩ (.int .i64 gn)).setCell ⟨p, 5, none⟩ (.int .i64 gx) = wb at *
            have htg := ttget_c (c := c0) (HT6.out.below hR2.be) HOK.out hkl (HRK.out.below hR2.be) hc0 (by omega) hkb
            rw [HG.out] at htg
            unfold Ag.v at htg
            simp only at htg
            have HTG := Aside0.mk htg
            have y0 := cell_below hR2.be HZ0.out
            clear htg far2
            obtain ⟨u0, u1, u2, u3, u4, u5, hq⟩ := hR2.qc
            go_upto_region 25 with (first
              | (go_at_call 15
                 refine HTG.out.mono ?_
                 rintro e wc ⟨rfl, hbc⟩
                 have hRc := hR2.below hbc
                 have hpc := (hbc.block _ (blk_lt hp2)).trans hp2
                 have hqc := (hbc.block _ (blk_lt hq)).trans hq
                 have f0 := blk_frozen hqc 0
                 have f1 := blk_frozen hqc 1
                 have f2 := blk_frozen hqc 2
                 have f3 := blk_frozen hqc 3
                 have f4 := blk_frozen hqc 4
                 have f5 := blk_frozen hqc 5
                 have q0 : wc.cell? ⟨q, 0, none⟩ = some u0 := (blk_cell hqc 0).trans rfl
                 have q1 : wc.cell? ⟨q, 1, none⟩ = some u1 := (blk_cell hqc 1).trans rfl
                 have q2 : wc.cell? ⟨q, 2, none⟩ = some u2 := (blk_cell hqc 2).trans rfl
                 have q3 : wc.cell? ⟨q, 3, none⟩ = some u3 := (blk_cell hqc 3).trans rfl
                 have q4 : wc.cell? ⟨q, 4, none⟩ = some u4 := (blk_cell hqc 4).trans rfl
                 have q5 : wc.cell? ⟨q, 5, none⟩ = some u5 := (blk_cell hqc 5).trans rfl)
              | fail)
            obtain ⟨hR3, hq3, far3⟩ := hRc.setq (.int .u64 gc) (.bool go) (.int .i64 gh) (.int .u64 gl) (.int .i64 gn) (.int .i64 gx)
            have hp3 := (far3 _ hR3.ne).trans hpc
            clear f0 f1 f2 f3 f4 f5 q0 q1 q2 q3 q4 q5 y0 hpc hqc HTG hq far3
            generalize (((((wc.setCell ⟨q, 0, none⟩ (.int .u64 gc)).setCell ⟨q, 1, none⟩ (.bool go)).setCell ⟨q, 2, none⟩ (.int .i64 gh)).setCell ⟨q, 3, none⟩ (.int .u64 gl)).setCell ⟨q, 4, none⟩ (.int .i64 gn)).setCell ⟨q, 5, none⟩ (.int .i64 gx) = wd at *
            have x0 : wd.cell? ⟨p, 0, none⟩ = some (.int .u64 gc) := (blk_cell hp3 0).trans rfl
            have x1 : wd.cell? ⟨p, 1, none⟩ = some (.bool go) := (blk_cell hp3 1).trans rfl
            have x2 : wd.cell? ⟨p, 2, none⟩ = some (.int .i64 gh) := (blk_cell hp3 2).trans rfl
            have x3 : wd.cell? ⟨p, 3, none⟩ = some (.int .u64 gl) := (blk_cell hp3 3).trans rfl
            have x4 : wd.cell? ⟨p, 4, none⟩ = some (.int .i64 gn) := (blk_cell hp3 4).trans rfl
            have x5 : wd.cell? ⟨p, 5, none⟩ = some (.int .i64 gx) := (blk_cell hp3 5).trans rfl
            have y0 : wd.cell? ⟨q, 0, none⟩ = some (.int .u64 gc) := (blk_cell hq3 0).trans rfl
            have y1 : wd.cell? ⟨q, 1, none⟩ = some (.bool go) := (blk_cell hq3 1).trans rfl
            have y2 : wd.cell? ⟨q, 2, none⟩ = some (.int .i64 gh) := (blk_cell hq3 2).trans rfl
            have y3 : wd.cell? ⟨q, 3, none⟩ = some (.int .u64 gl) := (blk_cell hq3 3).trans rfl
            have y4 : wd.cell? ⟨q, 4, none⟩ = some (.int .i64 gn) := (blk_cell hq3 4).trans rfl
            have y5 : wd.cell? ⟨q, 5, none⟩ = some (.int .i64 gx) := (blk_cell hq3 5).trans rfl
            go_wp2_with fail
            go_roundw
            case rel => exact ⟨j + 1, by omega, by go_num, ⟨hR3⟩⟩
            case measure => simp [intOf]; omega
          · obtain rfl : j = l.length := by omega
            have t1 : decide (l.length < l.length) = false := decide_eq_false hlt
            have hR := HR.out
            go_wp2_with (first
              | (go_at_call 6
                 refine (alive_c _).mono ?_
                 rintro e wa ⟨rfl, hba⟩
                 have hRa := hR.below hba
                 have h1 := all_c (HS6.out.below hRa.be) (by omega)
                 unfold ptr at h1
                 have HAL := Aside0.mk h1
                 clear h1)
              | (go_at_call 10
                 refine HAL.out.mono ?_
                 rintro e wb ⟨v4, xs1, rfl, ho4, ⟨hx4, hxe4⟩, hbb⟩
                 have hRb := hRa.below hbb
                 have hx4' : xs1.map Ent.ka = kas := by rw [HKAS.out]; exact hx4
                 obtain ⟨R4, c4, b4, rfl, hR4, hE4, hc4⟩ := row_er ho4 (fun x hx => ent_rd (hxe4 x hx).1 (hxe4 x hx).2 (HOK.out.k x.ka (by rw [← hx4']; exact List.mem_map.2 ⟨x, hx, rfl⟩)).2.1)
                 have H2 := Aside0.mk (tall_c (HT6.out.below hRb.be) HOK.out hkl)
                 have hle : xs1.length ≤ 80 := by have := congrArg List.length hx4'; rw [List.length_map] at this; omega)
              | (go_at_call 20
                 refine H2.out.mono ?_
                 rintro e wc ⟨v5, xs2, rfl, ho5, hx5, he5, hbc⟩
                 obtain ⟨R5, c5, b5, rfl, hR5, hE5, hc5⟩ := row_er ho5 (fun x hx' => (he5 x hx').rd)
                 have hby : ∀ x ∈ xs1, Byt x.k ∧ x.k.length ≤ 256 := fun x hx => by
                   have hk : x.ka ∈ kas := by rw [← hx4']; exact List.mem_map.2 ⟨x, hx, rfl⟩
                   exact ⟨(HOK.out.k _ hk).1, (HOK.out.k _ hk).2.2⟩
                 have H3 := Aside0.mk (same_c (c := c4) (d := c5) hR4 hR5 (hE4.below hbc) hE5 (hx4'.trans hx5.symm) (by omega) hby))
              | (go_at_call 17
                 refine H3.out.mono ?_
                 rintro e wd ⟨rfl, hbd⟩)
              | fail)
            go_ret
            have hRd := (hRb.below hbc).below hbd
            exact ⟨rfl, HB6.out.trans (hRd.be.mono HB6.out.size)⟩
end Go.Proofs.Ythabkdbhjioalaa.Top
namespace Go.Proofs.Ythabkdbhjioalaa.Open
set_option maxRecDepth 100000
open Go.ChangeShapes Go.WideShapes Go.Deep Go.RowKit Go.Proofs.YthabkdbhjioalaaW.PrintWords Go.Proofs.YthabkdbhjioalaaW.PrintLast Go.Proofs.YthabkdbhjioalaaW.PrintMore
set_option linter.unusedSimpArgs false
set_option linter.unusedVariables false
section
variable {H : Type} {enc : TypeId × Value → H} {w : World} {base : Nat} {spare : Nat → Bool} {held : Bool} {fuel : Nat}
/-- Bytes, as a row hands them. -/
def Bytes (w : World) (A : Option Addr) (cap : Nat) (l : List Int) : Prop := Kd.C (Kd.int .u8) w A l.length l ∧ l.length ≤ cap ∧ cap ≤ maxLen ∧ ∀ z ∈ l, 0 ≤ z ∧ z < 256
theorem u8_wf (z : Int) : (Lit.int .u8 z).wf = true ↔ 0 ≤ z ∧ z < 256 := by
  have h1 : IntKind.u8.min = 0 := by kernel_rfl
  have h2 : IntKind.u8.max = 255 := by kernel_rfl
  simp only [Lit.wf, h1, h2, Bool.and_eq_true, decide_eq_true_eq]
  omega
theorem i64_wf {z : Int} (h : (Lit.int .i64 z).wf = true) : -9223372036854775808 ≤ z ∧ z < 9223372036854775808 := by
  have h1 : IntKind.i64.min = -9223372036854775808 := by kernel_rfl
  have h2 : IntKind.i64.max = 9223372036854775807 := by kernel_rfl
  simp only [Lit.wf, h1, h2, Bool.and_eq_true, decide_eq_true_eq] at h
  omega
theorem u64_wf {z : Int} (h : (Lit.int .u64 z).wf = true) : 0 ≤ z ∧ z < 18446744073709551616 := by
  have h1 : IntKind.u64.min = 0 := by kernel_rfl
  have h2 : IntKind.u64.max = 18446744073709551615 := by kernel_rfl
  simp only [Lit.wf, h1, h2, Bool.and_eq_true, decide_eq_true_eq] at h
  omega
theorem bytes_cs {v : Value} {x : DataW H × List MemPlace} (h : DataW.trod enc Try.prog w base spare held fuel 23 [v] = some x) : ∃ A l c, v = .slice A l.length c ∧ Bytes w A c l := by
  rcases open_ints Try.underlying23 Try.underlying5 (by kernel_rfl) h with ⟨hcs, _⟩ | ⟨a, len, cap, ss, hcs, _, hl, hm, hz, _, hcell, hws⟩
  · simp at hcs
    subst hcs
    exact ⟨none, [], 0, rfl, ⟨rfl, by simp, fun h => absurd h (Nat.lt_irrefl 0)⟩, Nat.le_refl _, by unfold maxLen; omega, fun s hs => by simp at hs⟩
  · simp at hcs
    subst hcs
    have hle : len ≤ ss.length := by rw [hz]; split <;> omega
    have hlen : (ss.take len).length = len := by simp; omega
    refine ⟨some a, ss.take len, cap, by rw [hlen], ⟨rfl, by rw [hlen]; simp only [maxLen] at hm; omega, fun _ => ⟨a, rfl, fun j p hp => ?_⟩⟩, by rw [hlen]; exact hl, hm, fun z hz => ?_⟩
    · have hj : j < len := by
        have := (List.getElem?_eq_some_iff.1 hp).1
        omega
      have hp' : ss[j]? = some p := by rw [List.getElem?_take_of_lt hj] at hp; exact hp
      have hc := hcell j (by omega)
      rw [List.getD_eq_getElem?_getD, hp'] at hc
      refine ⟨[.int .u8 p], rfl, rfl, fun i u hu => ?_⟩
      rcases i with _ | i
      · simp at hu
        subst hu
        rw [show j * (Kd.int .u8).sz + 0 = j by show j * 1 + 0 = j; omega]
        exact hc
      · simp at hu
    · have := hws z (List.mem_of_mem_take hz)
      exact (u8_wf z).1 this
theorem open_bytes {b0 : Nat} {v : Value} {d : DataW H} {p : List MemPlace} (hv : Value.okWide Try.prog w .any b0 23 v) (h : DataW.Trod enc Try.prog w base spare held 23 v d p) : ∃ A l c, v = .slice A l.length c ∧ Bytes w A c l := by
  obtain ⟨a, len, cap, rfl⟩ := okWide_slice Try.underlying23 hv
  obtain ⟨fuel, hf⟩ := h
  exact bytes_cs hf
theorem one_field {P : Program} {fs : Array Field} {cs : List Value} {xs : List (DataW H × List MemPlace)} {n : Nat} (hf : ∀ (i : Nat) (f : Field), fs[i]? = some f → DataW.trod enc P w base spare held n f.type ((cs.drop f.offset).take (P.cellsOf f.type)) = xs[i]?) (hlen : xs.length = fs.size)
    (i : Nat) (f : Field) (hi : fs[i]? = some f) (t off k : Nat) (ht : f.type = t) (ho : f.offset = off) (hk : P.cellsOf t = k) : ∃ y, DataW.trod enc P w base spare held n t ((cs.drop off).take k) = some y := by
  have h := hf i f hi
  subst ht; subst ho; subst hk
  have hl := (Array.getElem?_eq_some_iff.1 hi).1
  rw [List.getElem?_eq_getElem (by omega)] at h
  exact ⟨_, h⟩
theorem wide_cs {cs : List Value} {x : DataW H × List MemPlace} (h : DataW.trod enc Try.prog w base spare held fuel 32 cs = some x) : ∃ hi lo : Int, cs = [.int .i64 hi, .int .u64 lo] ∧ (-9223372036854775808 ≤ hi ∧ hi < 9223372036854775808) ∧ 0 ≤ lo ∧ lo < 18446744073709551616 := by
  obtain ⟨xs, n, _, _, hl, hlen, hf⟩ := DataW.trod_struct Try.underlying32 h
  rw [show Try.prog.cellsOf 32 = 2 by kernel_rfl] at hl
  match cs, hl with
  | [v0, v1], _ =>
    obtain ⟨y0, h0⟩ := one_field hf hlen 0 _ rfl 2 0 1 rfl rfl (by kernel_rfl)
    obtain ⟨y1, h1⟩ := one_field hf hlen 1 _ rfl 30 1 1 rfl rfl (by kernel_rfl)
    obtain ⟨k0, e0, _, w0⟩ := DataW.trod_int Try.underlying2 h0
    obtain ⟨k1, e1, _, w1⟩ := DataW.trod_int Try.underlying30 h1
    simp at e0 e1
    subst e0; subst e1
    exact ⟨k0, k1, rfl, i64_wf w0, u64_wf w1⟩
theorem agg_cs {cs : List Value} {x : DataW H × List MemPlace} (h : DataW.trod enc Try.prog w base spare held fuel 34 cs = some x) :
    ∃ a : Lib.S34, cs = [.int .u64 a.f0, .bool a.f1, .int .i64 a.f2.f0, .int .u64 a.f2.f1, .int .i64 a.f3, .int .i64 a.f4] ∧ (Top.agOf a).ok ∧ (-9223372036854775808 ≤ a.f3 ∧ a.f3 < 9223372036854775808) ∧ (-9223372036854775808 ≤ a.f4 ∧ a.f4 < 9223372036854775808) := by
  obtain ⟨xs, n, _, _, hl, hlen, hf⟩ := DataW.trod_struct Try.underlying34 h
  rw [show Try.prog.cellsOf 34 = 6 by kernel_rfl] at hl
  match cs, hl with
  | [v0, v1, v2, v3, v4, v5], _ =>
    obtain ⟨y0, h0⟩ := one_field hf hlen 0 _ rfl 30 0 1 rfl rfl (by kernel_rfl)
    obtain ⟨y1, h1⟩ := one_field hf hlen 1 _ rfl 4 1 1 rfl rfl (by kernel_rfl)
    obtain ⟨y2, h2⟩ := one_field hf hlen 2 _ rfl 32 2 2 rfl rfl (by kernel_rfl)
    obtain ⟨y3, h3⟩ := one_field hf hlen 3 _ rfl 2 4 1 rfl rfl (by kernel_rfl)
    obtain ⟨y4, h4⟩ := one_field hf hlen 4 _ rfl 2 5 1 rfl rfl (by kernel_rfl)
    obtain ⟨k0, e0, _, w0⟩ := DataW.trod_int Try.underlying30 h0
    obtain ⟨k1, e1, _⟩ := DataW.trod_bool Try.underlying4 h1
    obtain ⟨k2, k2', e2, b1, b2⟩ := wide_cs h2
    obtain ⟨k3, e3, _, w3⟩ := DataW.trod_int Try.underlying2 h3
    obtain ⟨k4, e4, _, w4⟩ := DataW.trod_int Try.underlying2 h4
    simp at e0 e1 e2 e3 e4
    obtain ⟨e2, e2'⟩ := e2
    subst e0; subst e1; subst e2; subst e2'; subst e3; subst e4
    exact ⟨⟨k0, k1, ⟨k2, k2'⟩, k3, k4⟩, rfl, ⟨u64_wf w0, b1, b2⟩, i64_wf w3, i64_wf w4⟩
/-- Entries, as a row hands them. -/
def EnOk (x : Lib.S36) : Prop := (∀ z ∈ x.f0, 0 ≤ z ∧ z < 256) ∧ (Top.agOf x.f1).ok ∧ (-9223372036854775808 ≤ x.f1.f3 ∧ x.f1.f3 < 9223372036854775808) ∧ (-9223372036854775808 ≤ x.f1.f4 ∧ x.f1.f4 < 9223372036854775808)
def Entries (w : World) (A : Option Addr) (cap : Nat) (l : List Lib.S36) : Prop := Kd.C Lib.k36 w A l.length l ∧ l.length ≤ cap ∧ cap ≤ maxLen ∧ ∀ x ∈ l, EnOk x
theorem entry_cs {cs : List Value} {x : DataW H × List MemPlace} (h : DataW.trod enc Try.prog w base spare held fuel 36 cs = some x) :
    ∃ (q : Lib.S36) (A0 : Option Addr) (c0 : Nat), cs = [.slice A0 q.f0.length c0, .int .u64 q.f1.f0, .bool q.f1.f1, .int .i64 q.f1.f2.f0, .int .u64 q.f1.f2.f1, .int .i64 q.f1.f3, .int .i64 q.f1.f4] ∧ Bytes w A0 c0 q.f0 ∧ EnOk q := by
  obtain ⟨xs, n, _, _, hl, hlen, hf⟩ := DataW.trod_struct Try.underlying36 h
  rw [show Try.prog.cellsOf 36 = 7 by kernel_rfl] at hl
  match cs, hl with
  | [v0, v1, v2, v3, v4, v5, v6], _ =>
    obtain ⟨y0, h0⟩ := one_field hf hlen 0 _ rfl 23 0 1 rfl rfl (by kernel_rfl)
    obtain ⟨y1, h1⟩ := one_field hf hlen 1 _ rfl 34 1 6 rfl rfl (by kernel_rfl)
    obtain ⟨A, k, c, rfl, hb⟩ := bytes_cs h0
    obtain ⟨a, ea, b1, b2, b3⟩ := agg_cs h1
    simp at ea
    obtain ⟨e1, e2, e3, e4, e5, e6⟩ := ea
    subst e1; subst e2; subst e3; subst e4; subst e5; subst e6
    exact ⟨⟨k, a⟩, A, c, rfl, hb, hb.2.2.2, b1, b2, b3⟩
theorem entries_cs {v : Value} {x : DataW H × List MemPlace} (h : DataW.trod enc Try.prog w base spare held fuel 22 [v] = some x) : ∃ A l c, v = .slice A l.length c ∧ Entries w A c l := by
  rcases open_slice Try.underlying22 h with ⟨hcs, _⟩ | ⟨a, len, cap, m, n, D, Pl, hcs, _, hl, hm, hmm, _, hi⟩
  · simp at hcs
    subst hcs
    exact ⟨none, [], 0, rfl, ⟨rfl, by simp, fun h => absurd h (Nat.lt_irrefl 0)⟩, Nat.le_refl _, by unfold maxLen; omega, fun s hs => by simp at hs⟩
  · simp at hcs
    subst hcs
    rw [show Try.prog.cellsOf 36 = 7 by kernel_rfl] at hi
    have hlm : len ≤ m := by rw [hmm]; split <;> omega
    have hch : ∀ i : Nat, ∃ q : Lib.S36, i < len → ∃ (A0 : Option Addr) (c0 : Nat), (∀ j, j < 7 → w.cell? (a.add (i * 7 + j)) = ([.slice A0 q.f0.length c0, .int .u64 q.f1.f0, .bool q.f1.f1, .int .i64 q.f1.f2.f0, .int .u64 q.f1.f2.f1, .int .i64 q.f1.f3, .int .i64 q.f1.f4] : List Value)[j]?) ∧ Bytes w A0 c0 q.f0 ∧ EnOk q := by
      intro i
      by_cases hlt : i < len
      · obtain ⟨cs', hc, ht⟩ := hi i (by omega)
        obtain ⟨q, A0, c0, rfl, hb, hq⟩ := entry_cs ht
        obtain ⟨_, _, hat⟩ := World.cells?_some hc
        exact ⟨q, fun _ => ⟨A0, c0, fun j hj => by rw [← Go.Deep.add_add]; exact hat j hj, hb, hq⟩⟩
      · exact ⟨Lib.z36, fun h => absurd h hlt⟩
    obtain ⟨f, hf⟩ := Classical.axiomOfChoice hch
    have hlen : ((List.range len).map f).length = len := by simp
    refine ⟨some a, (List.range len).map f, cap, by rw [hlen], ⟨rfl, by rw [hlen]; simp only [maxLen] at hm; omega, fun _ => ⟨a, rfl, fun j p hp => ?_⟩⟩, by rw [hlen]; exact hl, hm, fun q hq => ?_⟩
    · have hj : j < len := by
        have := (List.getElem?_eq_some_iff.1 hp).1
        omega
      rw [List.getElem?_map, List.getElem?_range hj] at hp
      have hp' : f j = p := by simpa using hp
      subst hp'
      obtain ⟨A0, c0, h0, hb, _⟩ := hf j hj
      refine ⟨_, rfl, Lib.k36_mk w (f j) hb.2.1 hb.1, fun i u hu => ?_⟩
      rw [show j * Lib.k36.sz + i = j * 7 + i from rfl]
      have hi7 := (List.getElem?_eq_some_iff.1 hu).1
      rw [h0 i (by simpa using hi7)]
      exact hu
    · obtain ⟨j, hj, rfl⟩ := List.mem_map.1 hq
      rw [List.mem_range] at hj
      obtain ⟨A0, c0, _, _, hq⟩ := hf j hj
      exact hq
theorem open_entries {b0 : Nat} {v : Value} {d : DataW H} {p : List MemPlace} (hv : Value.okWide Try.prog w .any b0 22 v) (h : DataW.Trod enc Try.prog w base spare held 22 v d p) : ∃ A l c, v = .slice A l.length c ∧ Entries w A c l := by
  obtain ⟨a, len, cap, rfl⟩ := okWide_slice Try.underlying22 hv
  obtain ⟨fuel, hf⟩ := h
  exact entries_cs hf
end
end Go.Proofs.Ythabkdbhjioalaa.Open
