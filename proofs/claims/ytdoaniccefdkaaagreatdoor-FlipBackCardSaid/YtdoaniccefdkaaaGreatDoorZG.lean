/- Part of the proof. No conditions. -/
import Derived.Test.YtdoaniccefdkaaaGreatDoorZF
import Derived.Deep.LoopGhost
import Derived.Deep.AppendLies
import Derived.ArgAppend

set_option linter.all false
/- flip.Turn. -/
namespace Go.Proofs.YtdoaniccefdkaaaGreatDoor
open Go.RowKit Tvf Go.Maps Go.WideMaps

def turnR (M : MeshM) (a b : Int) : MeshM := makeR (makeR (killR (killR M a b (apD M a b)) b a (apD M b a)) (apD M b a) b (apD M a b)) a (apD M b a) (apD M a b)
theorem turnR_P (M : MeshM) (a b : Int) : (turnR M a b).P = M.P := by unfold turnR; rw [makeR_P, makeR_P, killR_P, killR_P]
theorem turnR_sound {M : MeshM} (h : Sound M) (a b : Int) : Sound (turnR M a b) := makeR_sound (makeR_sound (killR_sound (killR_sound h _ _ _) _ _ _) _ _ _) _ _ _

set_option maxRecDepth 100000 in
set_option maxHeartbeats 1000000 in
theorem turn_nil (a b : Int) (w : World) :
    Calls Tryz.prog 20 #[.pointer none, .int .i64 a, .int .i64 b] w fun r w' => r = .returned (.int .i64 2) ∧ w' = w := by
  go_enter Tryz.func20, Tryz.ntmps20
  go_wp2
  go_ret
  exact ⟨rfl, rfl⟩

set_option maxRecDepth 100000 in
set_option maxHeartbeats 2000000 in
theorem turn_none {w : World} {mb n : Nat} {M : MeshM} {F : Nat → Prop} (h : MeshAt w mb n M F) {a b : Int} (ha : i64ok a) (hb : i64ok b) (hq : shB M a b = false) :
    Calls Tryz.prog 20 #[.pointer (some ⟨mb, 0, none⟩), .int .i64 a, .int .i64 b] w fun r w' => r = .returned (.int .i64 5) ∧ Below w.heap.size w w' := by
  have HS := Lib.hid (shared_walk h ha hb)
  rw [hq] at HS
  generalize (M.ap a b).getD 0 = c at *
  generalize (M.ap b a).getD 0 = d at *
  clear h ha hb hq
  go_enter Tryz.func20, Tryz.ntmps20
  go_wp2_with (go_at_call 69; with_reducible refine HS.out.mono ?_; rintro r w1 ⟨rfl, b1⟩)
  go_ret
  exact ⟨rfl, b1.alloc b1.size _⟩

set_option maxRecDepth 100000 in
set_option maxHeartbeats 2000000 in
theorem turn_no {w : World} {mb n : Nat} {M : MeshM} {F : Nat → Prop} (h : MeshAt w mb n M F) (h64 : ∀ p, p ∈ M.P → pt64 p) (hs : Sound M) (hl : M.P.length ≤ 1048576) {a b : Int} (ha : i64ok a) (hb : i64ok b) (hq1 : shB M a b = true) (hq2 : mayB M a b = false) :
    Calls Tryz.prog 20 #[.pointer (some ⟨mb, 0, none⟩), .int .i64 a, .int .i64 b] w fun r w' => r = .returned (.int .i64 14) ∧ Below w.heap.size w w' := by
  have HS := Lib.hid (shared_walk h ha hb)
  have HM := Lib.hid (fun W (hb' : Below w.heap.size w W) => may_walk4 (h.below hb') h64 ha hb (apD_ok hs hl a b) (apD_ok hs hl b a))
  unfold mayB at hq2
  unfold apD at *
  rw [hq1] at HS
  rw [hq2] at HM
  clear hq1 hq2
  generalize (M.ap a b).getD 0 = c at *
  generalize (M.ap b a).getD 0 = d at *
  clear h h64 hs hl ha hb
  go_enter Tryz.func20, Tryz.ntmps20
  go_wp2_with (first
    | (go_at_call 69; with_reducible refine HS.out.mono ?_; rintro r w1 ⟨rfl, b1⟩)
    | (go_at_call 70; with_reducible refine (HM.out _ (b1.alloc b1.size _)).mono ?_; rintro r w2 ⟨rfl, hb2⟩))
  go_ret
  exact ⟨rfl, (b1.alloc b1.size _).trans (hb2.mono (Nat.le_trans b1.size (by simp)))⟩

/-- the pair, as the walk reads it, beside the mesh; what has turned since the world wS -/
structure PairSt (w0 wS W : World) (F0 : Nat → Prop) (mb n : Nat) (M : MeshM) (F : Nat → Prop) (P : Nat) (a b c d : Int) : Prop where
  m : MB w0 W mb n M F
  st : Stay F0 wS W
  sub : ∀ i, F i → F0 i ∨ wS.heap.size ≤ i
  lt : P < W.heap.size
  off : ¬F P
  q0 : W.cell? ⟨P, 0, none⟩ = some (.int .i64 a)
  q1 : W.cell? ⟨P, 1, none⟩ = some (.int .i64 b)
  q2 : W.cell? ⟨P, 2, none⟩ = some (.int .i64 c)
  q3 : W.cell? ⟨P, 3, none⟩ = some (.int .i64 d)
theorem PairSt.step {w0 wS W W' : World} {F0 : Nat → Prop} {mb n n' : Nat} {M M' : MeshM} {F : Nat → Prop} {P : Nat} {a b c d : Int} (h : PairSt w0 wS W F0 mb n M F P a b c d) (hm : MB w0 W' mb n' M' (Fx F W W')) (hs : Stay F W W') : PairSt w0 wS W' F0 mb n' M' (Fx F W W') P a b c d := by
  have hc : ∀ i, W'.cell? ⟨P, i, none⟩ = W.cell? ⟨P, i, none⟩ := fun i => World.cell?_of_block (hs.block P h.lt h.off)
  exact ⟨hm, h.st.trans (hs.mono h.sub), fun i e => e.elim (h.sub i) (fun e => .inr (Nat.le_trans h.st.size e.1)), Nat.lt_of_lt_of_le h.lt hs.size, fun e => e.elim h.off (fun e => by have := h.lt; omega), (hc 0).trans h.q0, (hc 1).trans h.q1, (hc 2).trans h.q2, (hc 3).trans h.q3⟩

theorem pair_new {w0 w w1 w2 : World} {mb n : Nat} {M : MeshM} {F : Nat → Prop} {a b c d : Int} (h : MB w0 w mb n M F) (b1 : Below w.heap.size w w1)
    (hb2 : Below (w1.alloc (.cells #[.int .i64 a, .int .i64 b, .int .i64 c, .int .i64 d] 121)).heap.size (w1.alloc (.cells #[.int .i64 a, .int .i64 b, .int .i64 c, .int .i64 d] 121)) w2) : PairSt w0 w w2 F mb n M F w1.heap.size a b c d := by
  obtain ⟨i0, i1, i2, i3⟩ := new4 w1 (.int .i64 a) (.int .i64 b) (.int .i64 c) (.int .i64 d) 121
  have c1 := b1.alloc b1.size (.cells #[.int .i64 a, .int .i64 b, .int .i64 c, .int .i64 d] 121)
  exact ⟨h.below (c1.trans (hb2.mono c1.size)), Stay.of_below (c1.trans (hb2.mono c1.size)), fun i e => .inl e, Nat.lt_of_lt_of_le (by simp) hb2.size, fun e => by have := h.at_.flt _ e; have := b1.size; omega, cell_keep i0 hb2, cell_keep i1 hb2, cell_keep i2 hb2, cell_keep i3 hb2⟩

set_option maxRecDepth 100000 in
set_option maxHeartbeats 2000000 in
theorem turn_ok {w0 w : World} {mb n : Nat} {M : MeshM} {F : Nat → Prop} (h : MB w0 w mb n M F) (h64 : ∀ p, p ∈ M.P → pt64 p) (hs : Sound M) (hl : M.P.length ≤ 1048576) (hn : n ≤ 100000000) {a b : Int} (ha : i64ok a) (hb : i64ok b) (hq1 : shB M a b = true) (hq2 : mayB M a b = true) :
    Calls Tryz.prog 20 #[.pointer (some ⟨mb, 0, none⟩), .int .i64 a, .int .i64 b] w fun r w' => r = .returned (.int .i64 0) ∧ ∃ G, MB w0 w' mb (n + 12) (turnR M a b) G ∧ Stay F w w' ∧ ∀ i, G i → F i ∨ w.heap.size ≤ i := by
  have HS := Lib.hid (shared_walk h.at_ ha hb)
  have HM := Lib.hid (fun W (hb' : Below w.heap.size w W) => may_walk4 (h.at_.below hb') h64 ha hb (apD_ok hs hl a b) (apD_ok hs hl b a))
  have hcd : i64ok (apD M a b) ∧ i64ok (apD M b a) := ⟨apD_ok hs hl a b, apD_ok hs hl b a⟩
  unfold mayB at hq2
  unfold turnR
  have HKL : Hid (∀ W P k N G x y z c d, PairSt w0 w W F mb k N G P a b c d → k ≤ 200000000 → i64ok x → i64ok y → i64ok z → Calls Tryz.prog 29 #[.pointer (some ⟨mb, 0, none⟩), .int .i64 x, .int .i64 y, .int .i64 z] W fun r W' => (∃ v, r = .returned (.int .i64 v)) ∧ ∃ G', PairSt w0 w W' F mb (k + 3) (killR N x y z) G' P a b c d) := by
    intro W P k N G x y z c d hp hk hx hy hz
    refine (kill_mb hp.m (by omega) hx hy hz).mono ?_
    rintro r W' ⟨rfl, hm, hst⟩
    exact ⟨⟨_, rfl⟩, _, hp.step hm hst⟩
  have HMK : Hid (∀ W P k N G x y z c d, PairSt w0 w W F mb k N G P a b c d → k ≤ 200000000 → N.P = M.P → Calls Tryz.prog 28 #[.pointer (some ⟨mb, 0, none⟩), .int .i64 x, .int .i64 y, .int .i64 z] W fun r W' => (∃ v, r = .returned (.int .i64 v)) ∧ ∃ G', PairSt w0 w W' F mb (k + 3) (makeR N x y z) G' P a b c d) := by
    intro W P k N G x y z c d hp hk hN
    refine (make_mb hp.m (by rw [hN]; exact h64) (by rw [hN]; exact hl) (by omega) x y z).mono ?_
    rintro r W' ⟨rfl, hm, hst⟩
    exact ⟨⟨_, rfl⟩, _, hp.step hm hst⟩
  have HMB := Lib.hid h
  have HNN := Lib.hid hn
  have HAB : Hid (i64ok a ∧ i64ok b) := ⟨ha, hb⟩
  have HCD := Lib.hid hcd
  change Hid (Calls _ _ _ _ fun r w' => r = .returned (.tuple #[.agg #[.int .i64 a, .int .i64 b, .int .i64 (apD M a b), .int .i64 (apD M b a)], .bool (shB M a b)]) ∧ Below w.heap.size w w') at HS
  rw [hq1] at HS
  rw [hq2] at HM
  clear hq1 hq2 h h64 hs hl hn ha hb hcd
  generalize apD M a b = c at *
  generalize apD M b a = d at *
  go_enter Tryz.func20, Tryz.ntmps20
  go_wp2_with (first
    | (go_at_call 69; with_reducible refine HS.out.mono ?_; rintro r w1 ⟨rfl, b1⟩; have c1 := b1.alloc b1.size (.cells #[.int .i64 a, .int .i64 b, .int .i64 c, .int .i64 d] 121))
    | (go_at_call 70; with_reducible refine (HM.out _ c1).mono ?_; rintro r w2 ⟨rfl, hb2⟩; have HP2 := Lib.hid (pair_new HMB.out b1 hb2); have n0 := HP2.out.q0; have n1 := HP2.out.q1; have n2 := HP2.out.q2; have n3 := HP2.out.q3; clear hb2 c1)
    | (go_at_call 29; with_reducible refine (HKL.out _ _ _ _ _ _ _ _ _ _ HP2.out (by have := HNN.out; omega) HAB.out.1 HAB.out.2 HCD.out.1).mono ?_; rintro r w3 ⟨⟨v3, rfl⟩, G3, hp3⟩; have HP3 := Lib.hid hp3; clear n0 n1 n2 n3 hp3 HP2; have n0 := HP3.out.q0; have n1 := HP3.out.q1; have n2 := HP3.out.q2; have n3 := HP3.out.q3)
    | (go_at_call 29; with_reducible refine (HKL.out _ _ _ _ _ _ _ _ _ _ HP3.out (by have := HNN.out; omega) HAB.out.2 HAB.out.1 HCD.out.2).mono ?_; rintro r w4 ⟨⟨v4, rfl⟩, G4, hp4⟩; have HP4 := Lib.hid hp4; clear n0 n1 n2 n3 hp4 HP3; have n0 := HP4.out.q0; have n1 := HP4.out.q1; have n2 := HP4.out.q2; have n3 := HP4.out.q3)
    | (go_at_call 28; with_reducible refine (HMK.out _ _ _ _ _ _ _ _ _ _ HP4.out (by have := HNN.out; omega) (by rw [killR_P, killR_P])).mono ?_; rintro r w5 ⟨⟨v5, rfl⟩, G5, hp5⟩; have HP5 := Lib.hid hp5; clear n0 n1 n2 n3 hp5 HP4; have n0 := HP5.out.q0; have n1 := HP5.out.q1; have n2 := HP5.out.q2; have n3 := HP5.out.q3)
    | (go_at_call 28; with_reducible refine (HMK.out _ _ _ _ _ _ _ _ _ _ HP5.out (by have := HNN.out; omega) (by rw [makeR_P, killR_P, killR_P])).mono ?_; rintro r w6 ⟨⟨v6, rfl⟩, G6, hp6⟩; have HP6 := Lib.hid hp6; clear n0 n1 n2 n3 hp6 HP5))
  go_ret
  exact ⟨rfl, G6, HP6.out.m, HP6.out.st, HP6.out.sub⟩

end Go.Proofs.YtdoaniccefdkaaaGreatDoor

/- slices.Clone of pairs; flip.settle where nothing is turned. -/
namespace Go.Proofs.YtdoaniccefdkaaaGreatDoor
open Go.RowKit Tvf Go.Maps Go.WideMaps

theorem cellsP2_one (l : List (Int × Int)) : ∀ u ∈ cellsK encP l, u.oneCell' = true := by
  intro u hu
  unfold cellsK at hu
  obtain ⟨p, _, hp⟩ := List.mem_flatMap.1 hu
  exact encP_one p u hp
theorem cellsP2_len (l : List (Int × Int)) : (cellsK encP l).length = l.length * 2 := cellsK_len encP_len l

set_option maxRecDepth 100000 in
set_option maxHeartbeats 1000000 in
theorem cloneP_nil (cap : Nat) (w : World) :
    Calls Tryz.prog 227 #[.slice none 0 cap] w fun e w' => e = .returned (.slice none 0 0) ∧ w' = w := by
  have q22 : ∀ (w : World) (a : Option Addr) (n c n' c' : Nat), (binOp .eql 78 (.slice a n c) (.slice none n' c')).run Tryz.prog w = .ok (.bool a.isNone) w := fun w a n c n' c' => Lib.run_eql_slice_nil w _ _ a n c n' c' Tryz.underlying78
  go_enter Tryz.func227, Tryz.ntmps227
  go_wp2
  go_ret
  exact ⟨rfl, rfl⟩

set_option maxRecDepth 100000 in
set_option maxHeartbeats 1000000 in
theorem cloneP_some (l : List (Int × Int)) (a : Addr) (cap : Nat) (hl : l.length ≤ 2000000000) (w : World) (hc : ∀ j u, (cellsK encP l)[j]? = some u → w.cell? (a.add j) = some u) :
    Calls Tryz.prog 227 #[.slice (some a) l.length cap] w fun e w' => ∃ v', e = .returned v' ∧ w'.ownsRow w.heap.size 62 2 v' l.length (cellsK encP l) ∧ Below w.heap.size w w' := by
  obtain ⟨i0, hi, hz0, hz1, hz2⟩ := info_parts infoPair
  have HC := Lib.hid hc
  clear hc
  have h1 := Lib.hid (cellsP2_one l)
  have hlen := Lib.hid (cellsP2_len l)
  have q22 : ∀ (w : World) (a : Option Addr) (n c n' c' : Nat), (binOp .eql 78 (.slice a n c) (.slice none n' c')).run Tryz.prog w = .ok (.bool a.isNone) w := fun w a n c n' c' => Lib.run_eql_slice_nil w _ _ a n c n' c' Tryz.underlying78
  go_enter Tryz.func227, Tryz.ntmps227
  go_wp2_with (at_builtin; refine wpList_append_own _ rfl _ _ 78 rfl w.heap.size 62 i0 (.agg #[.int .i64 0, .int .i64 0]) 2 16 Tryz.underlying78 hi hz0 hz1 hz2 rfl (by decide) _ _ _ rfl (World.ownsRow_made w #[] 0 (Nat.le_refl _) (Nat.zero_le _) (by simp)) a l.length cap (cellsK encP l) rfl ?qc1 ?qc2 ?qc3 ?qc4 ?qc5 ?qc6 ?_)
  case qc1 => exact hlen.out
  case qc2 => intro j u hj; exact Lib.cell?_alloc_some _ (HC.out j u hj)
  case qc3 => exact h1.out
  case qc4 => unfold maxLen; omega
  case qc5 => omega
  case qc6 => simp
  intro v' w1 hown hgrow hnil
  go_wp2
  go_ret
  refine ⟨v', rfl, by simpa using hown, ((Below.refl _ w).alloc (Nat.le_refl _) _).grown hgrow (by simp) (by intro k hk; simp [Value.ownBlock] at hk; omega)⟩

theorem cloneP_walk {w : World} {l : List (Int × Int)} {ad : Option Addr} {cap : Nat} (h : KCells encP w ad l) (hn : ad = none → l.length = 0) (hl : l.length ≤ 2000000000) :
    Calls Tryz.prog 227 #[.slice ad l.length cap] w fun e w' => ∃ v', e = .returned v' ∧ w'.ownsRow w.heap.size 62 2 v' l.length (cellsK encP l) ∧ Below w.heap.size w w' := by
  cases ad with
  | none =>
    have h0 := hn rfl
    have : l = [] := List.length_eq_zero_iff.1 h0
    subst this
    refine (cloneP_nil cap w).mono ?_
    rintro r w' ⟨rfl, rfl⟩
    exact ⟨_, rfl, World.ownsRow_nil _ _ _ _, Below.refl _ _⟩
  | some a =>
    refine cloneP_some l a cap hl w ?_
    intro j u hu
    have hj : 0 < l.length := by
      have := (List.getElem?_eq_some_iff.1 hu).1
      rw [cellsP2_len] at this
      omega
    obtain ⟨g, e, _, hcc⟩ := h hj
    cases e
    rw [Addr.add_lit, Nat.zero_add]
    exact hcc j u hu

end Go.Proofs.YtdoaniccefdkaaaGreatDoor

/- flip.settle where nothing is turned. -/
namespace Go.Proofs.YtdoaniccefdkaaaGreatDoor
open Go.RowKit Tvf Go.Maps Go.WideMaps

theorem below_off {w w' : World} {o : Obj} (h : Below (w.alloc o).heap.size (w.alloc o) w') : Below w.heap.size w w' :=
  ((Below.refl w.heap.size w).alloc (Nat.le_refl _) o).trans (h.mono (by simp))
theorem first_below {w w' : World} (h : Hid (Below w.heap.size w w')) : Below w.heap.size w w' := h.out
/-- a slice's length -/
def slLen : Value → Nat
  | .slice _ n _ => n
  | _ => 0

set_option maxRecDepth 100000 in
set_option maxHeartbeats 2000000 in
theorem settle_quiet {w0 w : World} {mb n : Nat} {M : MeshM} {F : Nat → Prop} (h : MB w0 w mb n M F) (h64 : ∀ p, p ∈ M.P → pt64 p) (hs : Sound M) (hl : M.P.length ≤ 1048576) {L : List (Int × Int)} {ad : Option Addr} {cap : Nat} (hL : L.length ≤ 1000000) (hcap : L.length ≤ cap) (hk : KCells encP w ad L) (hn : ad = none → L.length = 0)
    (hi : ∀ e, e ∈ L → i64ok e.1 ∧ i64ok e.2) (hq : ∀ e, e ∈ L → (shB M e.1 e.2 && mayB M e.1 e.2) = false) :
    Calls Tryz.prog 175 #[.pointer (some ⟨mb, 0, none⟩), .slice ad L.length cap] w fun r w' => ∃ v, r = .returned (.tuple #[.int .i64 0, v]) ∧ w'.ownsRow w.heap.size 62 2 v L.length (cellsK encP L) ∧ MB w0 w' mb n M F ∧ Below w.heap.size w w' := by
  have HC := Lib.hid (cloneP_walk (cap := cap) hk hn (by omega))
  have HMB := Lib.hid h
  have HS := Lib.hid (fun W (hb : Below w.heap.size w W) a b ha hb' => shared_walk (h.at_.below hb) (a := a) (b := b) ha hb')
  have HD := Lib.hid (fun W (hb : Below w.heap.size w W) a b ha hb' hqq => del_no (h.at_.below hb) h64 hs hl (a := a) (b := b) ha hb' hqq)
  have HI := Lib.hid hi
  have HQ := Lib.hid hq
  have HK := Lib.hid hk
  have HLL := Lib.hid hL
  clear h h64 hs hl hk hn hi hq hL
  go_enter Tryz.func175, Tryz.ntmps175
  go_wp2_with (go_at_call 227; refine HC.out.mono ?_; rintro r w1 ⟨v1, rfl, hown1, hb1⟩)
  have HO := Lib.hid hown1
  have HB1 := Lib.hid hb1
  have HOW : Hid (∀ W, Below w1.heap.size w1 W → W.ownsRow w.heap.size 62 2 v1 L.length (cellsK encP L)) := fun W hb => ownsRow_same HO.out fun g hg => hb.block g (HO.out.lt g hg).2
  clear hown1 hb1 HC
  go_loopw [1, 6, 7] (fun s1 s6 s7 wr => ∃ k c : Nat, k ≤ L.length ∧ k ≤ c ∧ s1 = .slice ad k c ∧ s6 = .int .i64 0 ∧ s7 = v1 ∧ Hid (Below w1.heap.size w1 wr)) (fun s1 _ _ _ => slLen s1)
  case atStart => exact ⟨L.length, cap, Nat.le_refl _, hcap, rfl, rfl, rfl, Below.refl _ _⟩
  case round =>
    obtain ⟨k, c, hk, hkc, rfl, rfl, rfl, HB⟩ := hrel
    cases k with
    | zero =>
      go_wp2
      go_ret2
      exact ⟨_, rfl, HOW.out wr HB.out, HMB.out.below (HB1.out.trans (HB.out.mono HB1.out.size)), HB1.out.trans (HB.out.mono HB1.out.size)⟩
    | succ j =>
      have hj : j < L.length := by omega
      have hwj : wrap64 ((j : Nat) : Int) = j := by have := HLL.out; unfold wrap64; omega
      have HBW : Hid (Below w.heap.size w wr) := HB1.out.trans (HB.out.mono HB1.out.size)
      obtain ⟨g, rfl, hg, q0, q1⟩ := (HK.out.below HBW.out).pair hj
      have HE : Hid (L.getD j (0, 0) ∈ L) := by unfold Hid; rw [List.getD_eq_getElem?_getD, List.getElem?_eq_getElem hj]; exact List.getElem_mem hj
      have HIE := Lib.hid (HI.out _ HE.out)
      have HQE := Lib.hid (HQ.out _ HE.out)
      clear HE
      generalize L.getD j (0, 0) = e at *
      obtain ⟨a, b⟩ := e
      dsimp only at q0 q1 HIE HQE
      have B3 : Hid (Below w.heap.size w (wr.alloc (.cells #[.int .i64 a, .int .i64 b] 62))) := HBW.out.alloc HBW.out.size _
      have HS1 := Lib.hid (HS.out _ B3.out a b HIE.out.1 HIE.out.2)
      have HD1 := Lib.hid (fun W hb => HD.out W hb a b HIE.out.1 HIE.out.2 HQE.out)
      generalize (M.ap a b).getD 0 = x at *
      generalize (M.ap b a).getD 0 = y at *
      have hkc' : j + 1 ≤ c := hkc
      generalize shB M a b = sh at *
      cases sh
      all_goals
        go_wp2_with (first
          | (go_at_call 69; with_reducible refine HS1.out.mono ?_; rintro r w5 ⟨rfl, hb5⟩; have B5 := Lib.hid ((B3.out.trans (hb5.mono B3.out.size)).alloc (Nat.le_trans B3.out.size hb5.size) (.cells #[.int .i64 a, .int .i64 b, .int .i64 x, .int .i64 y] 121)); have C5 := Lib.hid ((below_off hb5).alloc (below_off hb5).size (.cells #[.int .i64 a, .int .i64 b, .int .i64 x, .int .i64 y] 121)); have j0 := cell_al (cell_keep (new2 wr (.int .i64 a) (.int .i64 b) 62).1 hb5); have j1 := cell_al (cell_keep (new2 wr (.int .i64 a) (.int .i64 b) 62).2 hb5); clear hb5)
          | (go_at_call 63; with_reducible refine (HD1.out _ B5.out).mono ?_; rintro r w6 ⟨rfl, hb6⟩; have C6 := Lib.hid (C5.out.trans (hb6.mono C5.out.size)); clear hb6))
        go_roundw
        case rel => exact ⟨j, j, by omega, Nat.le_refl _, rfl, rfl, rfl, HB.out.trans ((first_below (by first | exact C6 | exact C5)).mono HB.out.size)⟩
        case measure => simp [slLen]

end Go.Proofs.YtdoaniccefdkaaaGreatDoor

/- Two lists of edges beside a mesh, as flip.settle keeps them; an edge more on each. -/
namespace Go.Proofs.YtdoaniccefdkaaaGreatDoor
open Go.RowKit Tvf Go.Maps Go.WideMaps

/-- the list that is worked off (at block g, with room c), and the one of all that were seen -/
structure LV (B : Nat) (w : World) (F : Nat → Prop) (g c : Nat) (v7 : Value) (A S : List (Int × Int)) : Prop where
  rd : ∀ j u, (cellsK encP A)[j]? = some u → w.cell? ⟨g, j, none⟩ = some u
  lt : g < w.heap.size
  cap : c = A.length ∨ w.ownsRow B 62 2 (.slice (some ⟨g, 0, none⟩) A.length c) A.length (cellsK encP A)
  s : w.ownsRow B 62 2 v7 S.length (cellsK encP S)
  offl : ¬F g
  offs : ∀ b, v7.ownBlock = some b → ¬F b
  ne : v7.ownBlock ≠ some g
  flt : ∀ i, F i → i < w.heap.size
  base : B ≤ w.heap.size

section
variable {B : Nat} {w w' : World} {F : Nat → Prop} {g c : Nat} {v7 : Value} {A S : List (Int × Int)}
theorem LV.same (h : LV B w F g c v7 A S) (hs : w.heap.size ≤ w'.heap.size) (hg : w'.heap[g]? = w.heap[g]?) (h7 : ∀ b, v7.ownBlock = some b → w'.heap[b]? = w.heap[b]?) : LV B w' F g c v7 A S :=
  ⟨fun j u hu => (World.cell?_of_block hg).trans (h.rd j u hu), Nat.lt_of_lt_of_le h.lt hs, h.cap.imp id (fun ho => ownsRow_same ho fun b hb => by simp [Value.ownBlock] at hb; subst hb; exact hg), ownsRow_same h.s h7, h.offl, h.offs, h.ne, fun i hi => Nat.lt_of_lt_of_le (h.flt i hi) hs, Nat.le_trans h.base hs⟩
theorem LV.below (h : LV B w F g c v7 A S) (hb : Below w.heap.size w w') : LV B w' F g c v7 A S :=
  h.same hb.size (hb.block g h.lt) (fun b hb' => hb.block b (h.s.lt b hb').2)
theorem LV.turn (h : LV B w F g c v7 A S) {G : Nat → Prop} (hs : Stay F w w') (hG : ∀ i, G i → F i ∨ w.heap.size ≤ i) (hlt : ∀ i, G i → i < w'.heap.size) : LV B w' G g c v7 A S := by
  have h1 := h.same hs.size (hs.block g h.lt h.offl) (fun b hb' => hs.block b (h.s.lt b hb').2 (h.offs b hb'))
  exact ⟨h1.rd, h1.lt, h1.cap, h1.s, fun e => (hG g e).elim h.offl (fun e => by have := h.lt; omega), fun b hb e => (hG b e).elim (h.offs b hb) (fun e => by have := (h.s.lt b hb).2; omega), h.ne, hlt, h1.base⟩

theorem LV.push_l {f : Int × Int} {a : Addr} {k : Nat} (h : LV B w F g c v7 A S) (hx : ∀ j u, (encP f)[j]? = some u → w.cell? (a.add j) = some u) (hl : A.length ≤ 1000000000) (ty : TypeId) :
    ∃ g' c' w', (Builtin.append_ #[78, 78] ty #[.slice (some ⟨g, 0, none⟩) A.length c, .slice (some a) 1 k]).run Tryz.prog w = .ok (.slice (some ⟨g', 0, none⟩) (A.length + 1) c') w' ∧ LV B w' F g' c' v7 (A ++ [f]) S ∧ w.grownBy w' (some g) ∧ Below B w w' ∧ ∀ i, F i → w'.heap[i]? = w.heap[i]? := by
  obtain ⟨i0, hi, hz0, hz1, hz2⟩ := info_parts infoPair
  have hlen := cellsP2_len A
  have he : cellsK encP (A ++ [f]) = cellsK encP A ++ encP f := by rw [cellsK_append, cellsK_one]
  have fin : ∀ g' c' w', w'.ownsRow B 62 2 (.slice (some ⟨g', 0, none⟩) (A.length + 1) c') (A.length + 1) (cellsK encP A ++ encP f) → w.grownBy w' (some g) → (g' = g ∨ g' = w.heap.size) → g' < w'.heap.size → LV B w' F g' c' v7 (A ++ [f]) S := by
    intro g' c' w' ho hg hloc hlt
    have h7 : ∀ b, v7.ownBlock = some b → w'.heap[b]? = w.heap[b]? := fun b hb => hg.block b (h.s.lt b hb).2 (by have := h.ne; rw [hb] at this; simpa using this)
    refine ⟨fun j u hu => ?_, hlt, .inr ?_, ownsRow_same h.s h7, ?_, h.offs, ?_, fun i hi => Nat.lt_of_lt_of_le (h.flt i hi) hg.size, Nat.le_trans h.base hg.size⟩
    · rw [he] at hu
      have := ho.cells (g := g') rfl j u hu
      rwa [addr_add0] at this
    · rw [he, List.length_append]; exact ho
    · rcases hloc with rfl | rfl
      · exact h.offl
      · intro e; have := h.flt _ e; omega
    · rcases hloc with rfl | rfl
      · exact h.ne
      · intro e; have := (h.s.lt _ e).2; omega
  rcases h.cap with hc | ho
  · obtain ⟨v', w', hrun, ho, hg⟩ := run_append_arg_grows (P := Tryz.prog) w 78 ty 62 i0 (.agg #[.int .i64 0, .int .i64 0]) 2 16 Tryz.underlying78 hi hz0 hz1 hz2 rfl (by decide) ⟨g, 0, none⟩ A.length c (cellsK encP A) hlen (fun j u hu => by rw [addr_add0]; exact h.rd j u hu) a 1 k (encP f) rfl hx (by omega) (by unfold maxLen; omega) (by omega)
    have hof : ∃ g' c', v' = .slice (some ⟨g', 0, none⟩) (A.length + 1) c' ∧ w.heap.size ≤ g' ∧ g' < w'.heap.size := by
      have hlt := ho.lt
      rcases ho.2 with ⟨_, h0⟩ | ⟨g', c', cur, rfl, _⟩
      · omega
      · exact ⟨g', c', rfl, hlt g' rfl⟩
    obtain ⟨g', c', rfl, h1, h2⟩ := hof
    have hsz : g' = w.heap.size ∨ w.heap.size < g' := by omega
    have hg' : w.grownBy w' (some g) := ⟨hg.os, hg.tape, hg.output, hg.size, fun i hi _ => hg.block i hi (by simp)⟩
    have ho' := ownsRow_down h.base ho
    -- a new block: not the mesh's, not the other list's
    refine ⟨g', c', w', hrun, ?_, hg', ⟨hg.os, hg.tape, hg.output, hg.size, fun i hi => hg.block i (Nat.lt_of_lt_of_le hi h.base) (by simp)⟩, fun i hi => hg.block i (h.flt i hi) (by simp)⟩
    have h7 : ∀ b, v7.ownBlock = some b → w'.heap[b]? = w.heap[b]? := fun b hb => hg.block b (h.s.lt b hb).2 (by simp)
    refine ⟨fun j u hu => ?_, h2, .inr ?_, ownsRow_same h.s h7, ?_, h.offs, ?_, fun i hi => Nat.lt_of_lt_of_le (h.flt i hi) hg.size, Nat.le_trans h.base hg.size⟩
    · rw [he] at hu
      have := ho'.cells (g := g') rfl j u hu
      rwa [addr_add0] at this
    · rw [he, List.length_append]; exact ho'
    · intro e; have := h.flt _ e; omega
    · intro e; have := (h.s.lt _ e).2; omega
  · obtain ⟨g', c', w', hrun, ho', hg, hloc, hlt⟩ := run_append_lies (P := Tryz.prog) w 78 ty B 62 i0 (.agg #[.int .i64 0, .int .i64 0]) 2 16 Tryz.underlying78 hi hz0 hz1 hz2 rfl (by decide) (.slice (some ⟨g, 0, none⟩) A.length c) A.length (cellsK encP A) ho a 1 k (encP f) rfl hx (encP_one f) (by decide) (by unfold maxLen; omega) (by omega) h.base w.heap.size rfl
    have hBg := (ho.lt g rfl).1
    refine ⟨g', c', w', hrun, fin g' c' w' ho' hg (hloc.imp (fun e => by simp [Value.ownBlock] at e; exact e.symm) id) hlt, hg, ⟨hg.os, hg.tape, hg.output, hg.size, fun i hi => hg.block i (Nat.lt_of_lt_of_le hi h.base) (by simp [Value.ownBlock]; omega)⟩, fun i hi => hg.block i (h.flt i hi) (fun e => by simp [Value.ownBlock] at e; subst e; exact h.offl hi)⟩

theorem LV.push_s {f : Int × Int} {a : Addr} {k : Nat} (h : LV B w F g c v7 A S) (hx : ∀ j u, (encP f)[j]? = some u → w.cell? (a.add j) = some u) (hl : S.length ≤ 1000000000) (ty : TypeId) :
    ∃ g' c' w', (Builtin.append_ #[78, 78] ty #[v7, .slice (some a) 1 k]).run Tryz.prog w = .ok (.slice (some ⟨g', 0, none⟩) (S.length + 1) c') w' ∧ LV B w' F g c (.slice (some ⟨g', 0, none⟩) (S.length + 1) c') A (S ++ [f]) ∧ w.grownBy w' v7.ownBlock ∧ Below B w w' ∧ ∀ i, F i → w'.heap[i]? = w.heap[i]? := by
  obtain ⟨i0, hi, hz0, hz1, hz2⟩ := info_parts infoPair
  have he : cellsK encP (S ++ [f]) = cellsK encP S ++ encP f := by rw [cellsK_append, cellsK_one]
  obtain ⟨g', c', w', hrun, ho', hg, hloc, hlt⟩ := run_append_lies (P := Tryz.prog) w 78 ty B 62 i0 (.agg #[.int .i64 0, .int .i64 0]) 2 16 Tryz.underlying78 hi hz0 hz1 hz2 rfl (by decide) v7 S.length (cellsK encP S) h.s a 1 k (encP f) rfl hx (encP_one f) (by decide) (by unfold maxLen; omega) (by omega) h.base w.heap.size rfl
  have hgg : w'.heap[g]? = w.heap[g]? := hg.block g h.lt (fun e => h.ne e.symm)
  refine ⟨g', c', w', hrun, ⟨fun j u hu => (World.cell?_of_block hgg).trans (h.rd j u hu), Nat.lt_of_lt_of_le h.lt hg.size, h.cap.imp id (fun ho => ownsRow_same ho fun b hb => by simp [Value.ownBlock] at hb; subst hb; exact hgg), ?_, h.offl, ?_, ?_, fun i hi => Nat.lt_of_lt_of_le (h.flt i hi) hg.size, Nat.le_trans h.base hg.size⟩, hg, ⟨hg.os, hg.tape, hg.output, hg.size, fun i hi => hg.block i (Nat.lt_of_lt_of_le hi h.base) (fun e => by have := (h.s.lt i e.symm).1; omega)⟩, fun i hi => hg.block i (h.flt i hi) (fun e => h.offs i e.symm hi)⟩
  · rw [he, List.length_append]; exact ho'
  · intro b hb
    simp [Value.ownBlock] at hb
    subst hb
    rcases hloc with e | rfl
    · exact h.offs _ e
    · intro e; have := h.flt _ e; omega
  · simp only [Value.ownBlock]
    intro e
    simp at e
    subst e
    rcases hloc with e | e
    · exact h.ne e
    · have := h.lt; omega
end

/-- an append in a region that draws its order, as an equation -/
theorem step_run_append {P : Program} {w : World} {ops : Array Oper} {o : Oper} {a : Act} {K : Act → World → Prop} {Q : Exit → Act → World → Prop} {E : Prop} (hgd : o.guard = none) (s x : Operand) (t : TypeId)
    (hop : o.op = Op.call { callee := Callee.builtin Builtin.append, args := #[s, x], argTypes := #[t, t] }) (v y : Value) (hs : a.eval s = v) (hx : a.eval x = y) (v' : Value) (w' : World) (hrun : (Builtin.append_ #[t, t] o.type #[v, y]).run P w = .ok v' w')
    (hK : K (a.put o.dst v') w') : if Region.wanted o (yielded ops a.tmps) = true then Oper.wp P o a w K Q else E := by
  have hw : Region.wanted o (yielded ops a.tmps) = true := by simp [Region.wanted, hgd]
  rw [if_pos hw]
  unfold Oper.wp
  simp [execOp, hop, resolve, invoke, builtin, hs, hx, hrun, Result.andThen]
  exact hK

end Go.Proofs.YtdoaniccefdkaaaGreatDoor

/- flip.settle, plainly; what its inner round stands on. -/
namespace Go.Proofs.YtdoaniccefdkaaaGreatDoor
open Go.RowKit Tvf Go.Maps Go.WideMaps

structure SS where
  M : MeshM
  L : List (Int × Int)
  S : List (Int × Int)
  n : Nat
def four (M : MeshM) (a b : Int) : List (Int × Int) := [(a, apD M b a), (apD M b a, b), (b, apD M a b), (apD M a b, a)]
/-- the edge that is looked at next -/
def SS.e (s : SS) : Int × Int := s.L.getD (s.L.length - 1) (0, 0)
/-- a round (D: is an edge in order?) -/
def sStep (D : MeshM → Int → Int → Bool) (s : SS) : SS :=
  if shB s.M s.e.1 s.e.2 && !D s.M s.e.1 s.e.2 then ⟨turnR s.M s.e.1 s.e.2, s.L.take (s.L.length - 1) ++ four s.M s.e.1 s.e.2, s.S ++ four s.M s.e.1 s.e.2, s.n + 1⟩ else ⟨s.M, s.L.take (s.L.length - 1), s.S, s.n⟩
def sRun (D : MeshM → Int → Int → Bool) (s : SS) : Nat → SS
  | 0 => s
  | k + 1 => sStep D (sRun D s k)

/-- a block that holds an edge -/
def NB (W : World) (lo : Nat) (f : Int × Int) (nb : Nat) : Prop := (∀ j u, (encP f)[j]? = some u → W.cell? ((⟨nb, 0, none⟩ : Addr).add j) = some u) ∧ lo ≤ nb ∧ nb < W.heap.size
theorem NB.new (W : World) {lo : Nat} (f : Int × Int) (t : TypeId) (h : lo ≤ W.heap.size) : NB (W.alloc (.cells #[.int .i64 f.1, .int .i64 f.2] t)) lo f W.heap.size :=
  ⟨cells_new W (encP f) t, h, by simp⟩
theorem NB.al {W : World} {lo : Nat} {f : Int × Int} {nb : Nat} (h : NB W lo f nb) (o : Obj) : NB (W.alloc o) lo f nb :=
  ⟨fun j u hu => cell_al (h.1 j u hu) o, h.2.1, Nat.lt_of_lt_of_le h.2.2 (by simp)⟩
theorem NB.grown {W W' : World} {lo : Nat} {f : Int × Int} {nb : Nat} {row : Option Nat} (h : NB W lo f nb) (hg : W.grownBy W' row) (hr : ∀ g, row = some g → g < lo) : NB W' lo f nb :=
  ⟨fun j u hu => by
    rw [addr_add0]
    have := h.1 j u hu
    rw [addr_add0] at this
    exact (World.cell?_of_block (hg.block nb h.2.2 (fun e => by have := hr nb e.symm; have := h.2.1; omega))).trans this, h.2.1, Nat.lt_of_lt_of_le h.2.2 hg.size⟩
theorem LV.al {B : Nat} {w : World} {F : Nat → Prop} {g c : Nat} {v7 : Value} {A S : List (Int × Int)} (h : LV B w F g c v7 A S) (o : Obj) : LV B (w.alloc o) F g c v7 A S := h.below ((Below.refl _ _).alloc (Nat.le_refl _) o)
theorem LV.drew {B : Nat} {w : World} {F : Nat → Prop} {g c : Nat} {v7 : Value} {A S : List (Int × Int)} (h : LV B w F g c v7 A S) : LV B w.drew F g c v7 A S := h.below (Below.refl _ _).drew

end Go.Proofs.YtdoaniccefdkaaaGreatDoor

/- flip.settle. -/
namespace Go.Proofs.YtdoaniccefdkaaaGreatDoor
open Go.RowKit Tvf Go.Maps Go.WideMaps

/-- what an append leaves, for the walk -/
def PushL (B lo : Nat) (W : World) (F : Nat → Prop) (v7 : Value) (A S : List (Int × Int)) (f : Int × Int) (v y : Value) (ty : TypeId) : Prop :=
  ∃ g' c' w', (Builtin.append_ #[78, 78] ty #[v, y]).run Tryz.prog W = .ok (.slice (some ⟨g', 0, none⟩) (A.length + 1) c') w' ∧ Hid (LV B w' F g' c' v7 (A ++ [f]) S) ∧ Hid (Below B W w' ∧ ∀ i, F i → w'.heap[i]? = W.heap[i]?) ∧ Hid (∀ nb, NB W lo f nb → NB w' lo f nb) ∧
    (w'.cell? ⟨lo, 0, none⟩ = some (.int .i64 f.1) ∧ w'.cell? ⟨lo, 1, none⟩ = some (.int .i64 f.2)) ∧ Hid (lo < w'.heap.size)
def PushS (B lo : Nat) (W : World) (F : Nat → Prop) (g c : Nat) (A S : List (Int × Int)) (f : Int × Int) (v y : Value) (ty : TypeId) : Prop :=
  ∃ g' c' w', (Builtin.append_ #[78, 78] ty #[v, y]).run Tryz.prog W = .ok (.slice (some ⟨g', 0, none⟩) (S.length + 1) c') w' ∧ Hid (LV B w' F g c (.slice (some ⟨g', 0, none⟩) (S.length + 1) c') A (S ++ [f])) ∧ Hid (Below B W w' ∧ ∀ i, F i → w'.heap[i]? = W.heap[i]?) ∧ Hid (∀ nb, NB W lo f nb → NB w' lo f nb) ∧
    (w'.cell? ⟨lo, 0, none⟩ = some (.int .i64 f.1) ∧ w'.cell? ⟨lo, 1, none⟩ = some (.int .i64 f.2)) ∧ Hid (lo < w'.heap.size)

section
variable {B lo : Nat} {W : World} {F : Nat → Prop} {g c : Nat} {v7 : Value} {A S : List (Int × Int)} {f : Int × Int} {nb : Nat}
theorem push_l_at (h : LV B W F g c v7 A S) (hn : NB W lo f nb) (hg : g < lo) (hl : A.length ≤ 1000000000) (hp : W.cell? ⟨lo, 0, none⟩ = some (.int .i64 f.1) ∧ W.cell? ⟨lo, 1, none⟩ = some (.int .i64 f.2)) (ty : TypeId) :
    PushL B lo W F v7 A S f (.slice (some ⟨g, 0, none⟩) A.length c) (.slice (some ⟨nb, 0, none⟩) 1 1) ty := by
  obtain ⟨g', c', w', hr, h1, h2, h3, h4⟩ := h.push_l (k := 1) hn.1 hl ty
  have hlo := World.block_lt_of_cell? _ _ hp.1
  have hk : ∀ i v, W.cell? ⟨lo, i, none⟩ = some v → w'.cell? ⟨lo, i, none⟩ = some v := fun i v hv => (World.cell?_of_block (h2.block lo hlo (by simp; omega))).trans hv
  exact ⟨g', c', w', hr, h1, ⟨h3, h4⟩, fun nb' hb' => hb'.grown h2 (fun i hi => by cases hi; exact hg), ⟨hk 0 _ hp.1, hk 1 _ hp.2⟩, Nat.lt_of_lt_of_le hlo h2.size⟩
theorem push_s_at (h : LV B W F g c v7 A S) (hn : NB W lo f nb) (h7 : ∀ b, v7.ownBlock = some b → b < lo) (hl : S.length ≤ 1000000000) (hp : W.cell? ⟨lo, 0, none⟩ = some (.int .i64 f.1) ∧ W.cell? ⟨lo, 1, none⟩ = some (.int .i64 f.2)) (ty : TypeId) :
    PushS B lo W F g c A S f v7 (.slice (some ⟨nb, 0, none⟩) 1 1) ty := by
  obtain ⟨g', c', w', hr, h1, h2, h3, h4⟩ := h.push_s (k := 1) hn.1 hl ty
  have hlo := World.block_lt_of_cell? _ _ hp.1
  have hk : ∀ i v, W.cell? ⟨lo, i, none⟩ = some v → w'.cell? ⟨lo, i, none⟩ = some v := fun i v hv => (World.cell?_of_block (h2.block lo hlo (fun e => by have := h7 lo e.symm; omega))).trans hv
  exact ⟨g', c', w', hr, h1, ⟨h3, h4⟩, fun nb' hb' => hb'.grown h2 (fun i hi => h7 i hi), ⟨hk 0 _ hp.1, hk 1 _ hp.2⟩, Nat.lt_of_lt_of_le hlo h2.size⟩
end

/-- the list ahead of a round: whatever its room -/
structure LH (B : Nat) (w : World) (F : Nat → Prop) (ad : Option Addr) (v7 : Value) (A S : List (Int × Int)) : Prop where
  rd : KCells encP w ad A
  s : w.ownsRow B 62 2 v7 S.length (cellsK encP S)
  offl : ∀ g, ad = some g → ¬F g.block
  offs : ∀ b, v7.ownBlock = some b → ¬F b
  ne : ∀ g, ad = some g → v7.ownBlock ≠ some g.block
  flt : ∀ i, F i → i < w.heap.size
  base : B ≤ w.heap.size

/-- a last one less: the rest may be appended to -/
theorem LH.pop {B : Nat} {w : World} {F : Nat → Prop} {g : Nat} {v7 : Value} {A S : List (Int × Int)} (h : LH B w F (some ⟨g, 0, none⟩) v7 A S) (h0 : 0 < A.length) : LV B w F g (A.length - 1) v7 (A.take (A.length - 1)) S := by
  obtain ⟨g', e, hg, hc⟩ := h.rd h0
  cases e
  refine ⟨fun j u hu => hc j u ?_, hg, .inl (by rw [List.length_take]; omega), h.s, h.offl _ rfl, h.offs, h.ne _ rfl, h.flt, h.base⟩
  have e : A = A.take (A.length - 1) ++ A.drop (A.length - 1) := (List.take_append_drop _ _).symm
  rw [e, cellsK_append]
  rw [List.getElem?_append_left (List.getElem?_eq_some_iff.1 hu).1]
  exact hu
theorem LV.head {B : Nat} {w : World} {F : Nat → Prop} {g c : Nat} {v7 : Value} {A S : List (Int × Int)} (h : LV B w F g c v7 A S) : LH B w F (some ⟨g, 0, none⟩) v7 A S :=
  ⟨fun _ => ⟨g, rfl, h.lt, h.rd⟩, h.s, fun _ e => by cases e; exact h.offl, h.offs, fun _ e => by cases e; exact h.ne, h.flt, h.base⟩
theorem LV.room {B : Nat} {w : World} {F : Nat → Prop} {g c : Nat} {v7 : Value} {A S : List (Int × Int)} (h : LV B w F g c v7 A S) : A.length ≤ c := by
  rcases h.cap with rfl | ho
  · exact Nat.le_refl _
  · rcases ho.2 with ⟨e, _⟩ | ⟨g', c', cur, e, _, _, hle, _⟩
    · cases e
    · cases e; exact hle

/-- how a mesh stays while the lists turn -/
theorem MB.lists {w0 W W' : World} {B mb n : Nat} {M : MeshM} {F : Nat → Prop} (h : MB w0 W mb n M F) (hB : w0.heap.size ≤ B) (hb : Below B W W') (hf : ∀ i, F i → W'.heap[i]? = W.heap[i]?) : MB w0 W' mb n M F :=
  ⟨h.at_.same hb.size hf, h.new, h.keep.trans (hb.mono hB)⟩

end Go.Proofs.YtdoaniccefdkaaaGreatDoor
