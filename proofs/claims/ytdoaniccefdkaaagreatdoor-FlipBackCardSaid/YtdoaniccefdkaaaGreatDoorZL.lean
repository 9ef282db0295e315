/- Part of the proof. No conditions. -/
import Derived.Test.YtdoaniccefdkaaaGreatDoorZB
import Derived.Test.YtdoaniccefdkaaaGreatDoorZD
import Derived.Test.YtdoaniccefdkaaaGreatDoorZF
import Derived.Test.YtdoaniccefdkaaaGreatDoorZH
import Derived.Test.YtdoaniccefdkaaaGreatDoorZK
import Derived.Shelf.SlMaps.Clone

set_option linter.all false
/- flip.Settle and flip.All: the walks. -/
namespace Go.Proofs.YtdoaniccefdkaaaGreatDoor
open Go.RowKit Tvf Go.Maps Go.WideMaps

theorem owns_list {base : Nat} {w : World} {v : Value} {l : List (Int × Int)} (h : w.ownsRow base 62 2 v l.length (cellsK encP l)) :
    ∃ ad cap, v = .slice ad l.length cap ∧ l.length ≤ cap ∧ KCells encP w ad l ∧ (∀ g, ad = some g → v.ownBlock = some g.block ∧ g.block < w.heap.size) := by
  obtain ⟨ad, cap, rfl, hk, hg⟩ := owns_kcells h
  refine ⟨ad, cap, rfl, ?_, hk, fun g e => ⟨by subst e; rfl, (hg g e).2⟩⟩
  rcases h.2 with ⟨_, e⟩ | ⟨g', c', cur, e, _, _, hle, _⟩
  · omega
  · cases e; exact hle
theorem kcells_nil {w : World} {ad : Option Addr} {l : List (Int × Int)} (h : KCells encP w ad l) : ad = none → l.length = 0 := fun e => Nat.eq_zero_of_not_pos (fun h0 => by obtain ⟨g, hg, _⟩ := h h0; rw [e] at hg; cases hg)

/-- a turn of flip.Settle -/
structure Stg where
  M : MeshM
  L : List (Int × Int)
  n : Nat
def Stg.s0 (s : Stg) : SS := ⟨s.M, s.L, s.L, 0⟩
def stNext (D : MeshM → Int → Int → Bool) (K : Nat) (s : Stg) : Stg := ⟨(sRun D s.s0 K).M, (sRun D s.s0 K).S, s.n + (sRun D s.s0 K).n⟩
def stRun (D : MeshM → Int → Int → Bool) (K : Nat → Nat) (s : Stg) : Nat → Stg
  | 0 => s
  | r + 1 => stNext D (K r) (stRun D K s r)

structure GoodT (D : MeshM → Int → Int → Bool) (K : Nat) (s : Stg) : Prop where
  ll : s.L.length ≤ 1000000
  good : ∀ k, k < K → GoodS D (sRun D s.s0 k)
  fin : (sRun D s.s0 K).L = []
  tot : s.n + (sRun D s.s0 K).n ≤ 100000

theorem stRun_keep (D : MeshM → Int → Int → Bool) (K : Nat → Nat) (s : Stg) (hs : Sound s.M) : ∀ r, Sound (stRun D K s r).M ∧ (stRun D K s r).M.P = s.M.P
  | 0 => ⟨hs, rfl⟩
  | r + 1 => by
    obtain ⟨h1, h2⟩ := stRun_keep D K s hs r
    obtain ⟨h3, h4⟩ := sRun_keep D (stRun D K s r).s0 h1 (K r)
    exact ⟨h3, h4.trans h2⟩

theorem wrap_tot {a b : Nat} (h : a + b ≤ 100000) : wrap64 ((a : Int) + (b : Int)) = ((a + b : Nat) : Int) := by unfold wrap64; omega

set_option maxRecDepth 100000 in
set_option maxHeartbeats 4000000 in
theorem Settle_walk {w0 w : World} {mb n : Nat} {M : MeshM} {F : Nat → Prop} (h : MB w0 w mb n M F) (h64 : ∀ p, p ∈ M.P → pt64 p) (hs : Sound M) (hl : M.P.length ≤ 1048576) (hn : n ≤ 1000000) {L : List (Int × Int)} {ad : Option Addr} {cap : Nat} (hcap : L.length ≤ cap) (hk : KCells encP w ad L)
    (hoff : ∀ g, ad = some g → ¬F g.block ∧ g.block < w.heap.size) (D : MeshM → Int → Int → Bool) (K : Nat → Nat) (R : Nat) (hgood : ∀ r, r ≤ R → GoodT D (K r) (stRun D K ⟨M, L, 0⟩ r)) (hgo : ∀ r, r < R → (sRun D (stRun D K ⟨M, L, 0⟩ r).s0 (K r)).n ≠ 0) (hend : (sRun D (stRun D K ⟨M, L, 0⟩ R).s0 (K R)).n = 0) :
    Calls Tryz.prog 134 #[.pointer (some ⟨mb, 0, none⟩), .slice ad L.length cap] w fun r w' => r = .returned (.tuple #[.int .i64 (stRun D K ⟨M, L, 0⟩ R).n, .int .i64 0]) ∧ ∃ G,
      MB w0 w' mb (n + 12 * (stRun D K ⟨M, L, 0⟩ R).n) (stRun D K ⟨M, L, 0⟩ (R + 1)).M G ∧ Stay F w w' ∧ ∀ i, G i → F i ∨ w.heap.size ≤ i := by
  have HKP := Lib.hid (stRun_keep D K ⟨M, L, 0⟩ hs)
  have HGD := Lib.hid hgood
  have HGO := Lib.hid hgo
  have HEN := Lib.hid hend
  have HMB := Lib.hid h
  have H64 := Lib.hid h64
  have HL := Lib.hid hl
  have HNN := Lib.hid hn
  have HKC := Lib.hid hk
  have HOF := Lib.hid hoff
  clear h h64 hs hl hn hk hoff hgood hgo hend
  obtain ⟨RUN, HRUN⟩ : ∃ RUN : Nat → Stg, Hid (RUN = stRun D K ⟨M, L, 0⟩) := ⟨_, rfl⟩
  have HRS : Hid (∀ r, RUN (r + 1) = stNext D (K r) (RUN r)) := fun r => by rw [HRUN.out]; rfl
  have HR0 : Hid (RUN 0 = ⟨M, L, 0⟩) := by unfold Hid; rw [HRUN.out]; rfl
  rw [← HRUN.out] at HKP HGD HGO HEN ⊢
  clear HRUN
  go_enter Tryz.func134, Tryz.ntmps134
  go_wp2
  go_loopg [1, 6] R (fun gk s1 s6 wr => ∃ (r : Nat) (G : Nat → Prop) (ad' : Option Addr) (c : Nat), r + gk = R ∧ s1 = .slice ad' (RUN r).L.length c ∧ (RUN r).L.length ≤ c ∧ s6 = .int .i64 (RUN r).n ∧ Hid (MB w0 wr mb (n + 12 * (RUN r).n) (RUN r).M G) ∧ Hid (KCells encP wr ad' (RUN r).L ∧ ∀ g, ad' = some g → ¬G g.block ∧ g.block < wr.heap.size) ∧ Hid (Stay F w wr ∧ ∀ i, G i → F i ∨ w.heap.size ≤ i))
  case atStart =>
    refine ⟨0, F, ad, cap, by omega, ?_, ?_, ?_, ?_, ?_, Stay.refl _ _, fun i hi => .inl hi⟩
    all_goals rw [HR0.out]
    · exact hcap
    · rfl
    · exact HMB.out
    · exact ⟨HKC.out, HOF.out⟩
  case round =>
    obtain ⟨r, G, ad', c, hrg, rfl, hrc, rfl, HM, HLC, HST⟩ := hrel
    have hrR : r ≤ R := by omega
    have HGT := Lib.hid (HGD.out r hrR)
    have HSET : Hid (Calls Tryz.prog 175 #[.pointer (some ⟨mb, 0, none⟩), .slice ad' (RUN r).L.length c] wr fun r' w' => ∃ v, r' = .returned (.tuple #[.int .i64 (sRun D (RUN r).s0 (K r)).n, v]) ∧ ∃ G', Hid (w'.ownsRow wr.heap.size 62 2 v (sRun D (RUN r).s0 (K r)).S.length (cellsK encP (sRun D (RUN r).s0 (K r)).S) ∧ (∀ b, v.ownBlock = some b → ¬G' b) ∧
      MB w0 w' mb (n + 12 * (RUN r).n + 12 * (sRun D (RUN r).s0 (K r)).n) (sRun D (RUN r).s0 (K r)).M G' ∧ Stay G wr w' ∧ ∀ i, G' i → G i ∨ wr.heap.size ≤ i)) := by
      have h1 := HGT.out.tot
      refine (settle_walk HM.out (by rw [(HKP.out r).2]; exact H64.out) (HKP.out r).1 (by rw [(HKP.out r).2]; exact HL.out) (by have := HNN.out; omega) HGT.out.ll hrc HLC.out.1 (kcells_nil HLC.out.1) HLC.out.2 D (K r) HGT.out.good HGT.out.fin).mono ?_
      rintro r' w' ⟨v, G', rfl, h2, h3, h4, h5, h6⟩
      exact ⟨v, rfl, G', h2, h3, h4, h5, h6⟩
    have HNX := Lib.hid (HRS.out r)
    have HTT := Lib.hid (wrap_tot HGT.out.tot)
    by_cases hE : r = R
    · subst hE
      have hz := HEN.out
      rw [hz] at HSET
      go_wp2_with (go_at_call 175; refine HSET.out.mono ?_; rintro r' w2 ⟨v, rfl, G', H2⟩)
      go_ret2
      obtain ⟨h2, h3, h4, h5, h6⟩ := H2.out
      refine ⟨rfl, G', ?_, HST.out.1.trans (h5.mono fun i hi => HST.out.2 i hi), fun i hi => ?_⟩
      · rw [HNX.out]; exact h4
      · rcases h6 i hi with e | e
        · exact HST.out.2 i e
        · exact .inr (Nat.le_trans HST.out.1.size e)
    · have hlt : r < R := by omega
      obtain ⟨gk', rfl⟩ : ∃ x, gk = x + 1 := ⟨gk - 1, by omega⟩
      have hnz : ¬((sRun D (RUN r).s0 (K r)).n : Int) = 0 := by have := HGO.out r hlt; omega
      have HTT' := HTT.out
      go_wp2_with (go_at_call 175; refine HSET.out.mono ?_; rintro r' w2 ⟨v, rfl, G', H2⟩)
      go_roundg gk'
      case rel =>
        obtain ⟨h2, h3, h4, h5, h6⟩ := H2.out
        obtain ⟨ad2, cap2, rfl, hc2, hk2, hb2⟩ := owns_list h2
        refine ⟨r + 1, G', ad2, cap2, by omega, ?_⟩
        rw [HNX.out]
        refine ⟨rfl, hc2, by rw [HTT']; rfl, ?_, ⟨hk2, fun g e => ⟨h3 _ (hb2 g e).1, (hb2 g e).2⟩⟩, HST.out.1.trans (h5.mono fun i hi => HST.out.2 i hi), fun i hi => ?_⟩
        · have e : n + 12 * (RUN r).n + 12 * (sRun D (RUN r).s0 (K r)).n = n + 12 * (stNext D (K r) (RUN r)).n := by show _ = n + 12 * ((RUN r).n + (sRun D (RUN r).s0 (K r)).n); omega
          rw [← e]; exact h4
        · rcases h6 i hi with e | e
          · exact HST.out.2 i e
          · exact .inr (Nat.le_trans HST.out.1.size e)
      case measure => exact Nat.lt_succ_self _

set_option maxRecDepth 100000 in
set_option maxHeartbeats 1000000 in
theorem Settle_nil (v : Value) (w : World) :
    Calls Tryz.prog 134 #[.pointer none, v] w fun r w' => r = .returned (.tuple #[.int .i64 0, .int .i64 2]) ∧ w' = w := by
  go_enter Tryz.func134, Tryz.ntmps134
  go_wp2
  go_ret2
  exact ⟨rfl, rfl⟩

set_option maxRecDepth 100000 in
set_option maxHeartbeats 1000000 in
theorem All_nil (w : World) :
    Calls Tryz.prog 65 #[.pointer none] w fun r w' => r = .returned (.tuple #[.int .i64 0, .int .i64 2]) ∧ w' = w := by
  go_enter Tryz.func65, Tryz.ntmps65
  go_wp2
  go_ret2
  exact ⟨rfl, rfl⟩

set_option maxRecDepth 100000 in
set_option maxHeartbeats 1000000 in
theorem All_walk {w0 w : World} {mb n : Nat} {M : MeshM} {F : Nat → Prop} (h : MB w0 w mb n M F) (h64 : ∀ p, p ∈ M.P → pt64 p) (hs : Sound M) (hl : M.P.length ≤ 1048576) (hn : n ≤ 1000000) (D : MeshM → Int → Int → Bool) (K : Nat → Nat) (R : Nat) (hgood : ∀ r, r ≤ R → GoodT D (K r) (stRun D K ⟨M, edgeL M.ap M.P.length, 0⟩ r))
    (hgo : ∀ r, r < R → (sRun D (stRun D K ⟨M, edgeL M.ap M.P.length, 0⟩ r).s0 (K r)).n ≠ 0) (hend : (sRun D (stRun D K ⟨M, edgeL M.ap M.P.length, 0⟩ R).s0 (K R)).n = 0) :
    Calls Tryz.prog 65 #[.pointer (some ⟨mb, 0, none⟩)] w fun r w' => r = .returned (.tuple #[.int .i64 (stRun D K ⟨M, edgeL M.ap M.P.length, 0⟩ R).n, .int .i64 0]) ∧ ∃ G,
      MB w0 w' mb (n + 12 * (stRun D K ⟨M, edgeL M.ap M.P.length, 0⟩ R).n) (stRun D K ⟨M, edgeL M.ap M.P.length, 0⟩ (R + 1)).M G ∧ Stay F w w' ∧ ∀ i, G i → F i ∨ w.heap.size ≤ i := by
  have HE : Hid (Calls Tryz.prog 78 #[.pointer (some ⟨mb, 0, none⟩)] w fun r w' => ∃ v, r = .returned v ∧ Hid (∃ ad cap, v = .slice ad (edgeL M.ap M.P.length).length cap ∧ (edgeL M.ap M.P.length).length ≤ cap ∧ KCells encP w' ad (edgeL M.ap M.P.length) ∧ (∀ g, ad = some g → ¬F g.block ∧ g.block < w'.heap.size) ∧ Below w.heap.size w w')) := by
    refine (edges_walk h.at_ hs.win hs.rot hl).mono ?_
    rintro r w' ⟨v, rfl, ho, hb⟩
    obtain ⟨ad, cap, rfl, hc, hk, hg⟩ := owns_list ho
    exact ⟨_, rfl, ad, cap, rfl, hc, hk, fun g e => ⟨fun hf => by have := h.at_.flt _ hf; have := (ho.lt _ (hg g e).1).1; omega, (hg g e).2⟩, hb⟩
  have HS : Hid (∀ w1 ad cap, (edgeL M.ap M.P.length).length ≤ cap → KCells encP w1 ad (edgeL M.ap M.P.length) → (∀ g, ad = some g → ¬F g.block ∧ g.block < w1.heap.size) → Below w.heap.size w w1 → Calls Tryz.prog 134 #[.pointer (some ⟨mb, 0, none⟩), .slice ad (edgeL M.ap M.P.length).length cap] w1 fun r w' => r = .returned (.tuple #[.int .i64 (stRun D K ⟨M, edgeL M.ap M.P.length, 0⟩ R).n, .int .i64 0]) ∧ Hid (∃ G,
      MB w0 w' mb (n + 12 * (stRun D K ⟨M, edgeL M.ap M.P.length, 0⟩ R).n) (stRun D K ⟨M, edgeL M.ap M.P.length, 0⟩ (R + 1)).M G ∧ Stay F w w' ∧ ∀ i, G i → F i ∨ w.heap.size ≤ i)) := by
    intro w1 ad cap hc hk ho hb
    refine (Settle_walk (h.below hb) h64 hs hl hn hc hk ho D K R hgood hgo hend).mono ?_
    rintro r w' ⟨rfl, G, h1, h2, h3⟩
    exact ⟨rfl, G, h1, (Stay.of_below hb).trans (h2.mono fun i hi => .inl hi), fun i hi => (h3 i hi).imp id (fun e => Nat.le_trans hb.size e)⟩
  clear h h64 hs hl hn hgood hgo hend
  generalize (stRun D K ⟨M, edgeL M.ap M.P.length, 0⟩ R).n = tot at *
  generalize (stRun D K ⟨M, edgeL M.ap M.P.length, 0⟩ (R + 1)).M = MZ at *
  generalize edgeL M.ap M.P.length = L at *
  go_enter Tryz.func65, Tryz.ntmps65
  go_wp2_with (first
    | (go_at_call 78; refine HE.out.mono ?_; rintro r w1 ⟨v, rfl, H1⟩; obtain ⟨ad, cap, rfl, h2, h3, h4, h5⟩ := H1.out)
    | (go_at_call 134; refine (HS.out _ _ _ h2 h3 h4 h5).mono ?_; rintro r w2 ⟨rfl, H2⟩))
  go_ret2
  exact ⟨rfl, H2.out⟩

end Go.Proofs.YtdoaniccefdkaaaGreatDoor

/- circle.Within; at the examples' points. -/
namespace Go.Proofs.YtdoaniccefdkaaaGreatDoor
open Go.RowKit Tvf

set_option maxRecDepth 100000 in
set_option maxHeartbeats 1000000 in
theorem cwithin_walk {a b c d : Pt} {t s : Int} (hT : ∀ w, Calls Tryz.prog 90 #[V a, V b, V c] w fun r w' => r = .returned (.int .i64 t) ∧ Below w.heap.size w w')
    (hS : ∀ w, Calls Tryz.prog 177 #[V a, V b, V c, V d] w fun r w' => r = .returned (.int .i64 s) ∧ Below w.heap.size w w') (ht : (t == 0) = false) (w : World) :
    Calls Tryz.prog 136 #[V a, V b, V c, V d] w fun r w' => r = .returned (.bool (s == t)) ∧ Below w.heap.size w w' := by
  obtain ⟨ax, ay⟩ := a
  obtain ⟨bx, bY⟩ := b
  obtain ⟨cx, cy⟩ := c
  obtain ⟨dx, dy⟩ := d
  have HT := Lib.hid hT
  have HS := Lib.hid hS
  clear hT hS
  have ht' : (t != 0) = true := by simp only [bne, ht]; rfl
  unfold V at *
  cases hst : s == t
  all_goals
    go_enter Tryz.func136, Tryz.ntmps136
    go_wp2_with (first
      | (go_at_call 90; refine (HT.out _).mono ?_; rintro r w1 ⟨rfl, hb1⟩; have p1 := (P8.made w ax ay bx bY cx cy dx dy 52).below hb1; obtain ⟨q1, q2, q3, q4, q5, q6, q7, q8⟩ := p1)
      | (go_at_call 177; refine (HS.out _).mono ?_; rintro r w2 ⟨rfl, hb2⟩))
    go_ret
    have hbw : Below w.heap.size w w1 := ((((Below.refl w.heap.size w).alloc (Nat.le_refl _) _).alloc (by simp) _).alloc (by simp <;> omega) _).alloc (by simp <;> omega) _ |>.trans (hb1.mono (by simp <;> omega))
    exact ⟨rfl, hbw.trans (hb2.mono hbw.size)⟩

/-- a number as a float -/
def F0 : Nat := 0
def F1 : Nat := 4607182418800017408
def F2 : Nat := 4611686018427387904
def F4 : Nat := 4616189618054758400
def F9 : Nat := 4621256167635550208

theorem pts64 {l : List Pt} (h : l.all (fun p => decide (p.1 < 18446744073709551616) && decide (p.2 < 18446744073709551616)) = true) : ∀ p, p ∈ l → pt64 p := by
  intro p hp
  have := List.all_eq_true.1 h p hp
  rw [Bool.and_eq_true, decide_eq_true_eq, decide_eq_true_eq] at this
  unfold pt64
  exact ⟨by have := this.1; omega, by have := this.2; omega⟩

theorem wt1 (w : World) : Calls Tryz.prog 136 #[V (F4, F0), V (F0, F1), V (F0, F0), V (F4, F1)] w fun r w' => r = .returned (.bool false) ∧ Below w.heap.size w w' := by
  have h64 : ∀ p, p ∈ [(F4, F0), (F0, F1), (F0, F0), (F4, F1)] → pt64 p := pts64 (by decide)
  have hok : [(F4, F0), (F0, F1), (F0, F0), (F4, F1)].all ptOK = true := by decide +kernel
  have hf : fastRun F4 F0 F0 F1 F0 F0 F4 F1 = some (0, false) := by decide +kernel
  have hd : sgnI (det4 (F4, F0) (F0, F1) (F0, F0) (F4, F1)) = 0 := by decide +kernel
  have hs : signI (F4, F0) (F0, F1) (F0, F0) = 1 := by decide +kernel
  refine cwithin_walk (t := 1) (s := 0) (fun w => ?_) (fun w => ?_) (by decide) w
  · have := orient_sign (F4, F0) (F0, F1) (F0, F0) (pts64 (by decide)) w
    rwa [hs] at this
  · have := csign_exact F4 F0 F0 F1 F0 F0 F4 F1 h64 hok (cfast_walk h64 hok hf) w
    rwa [hd] at this

theorem wt2 (w : World) : Calls Tryz.prog 136 #[V (F0, F0), V (F9, F9), V (F1, F2), V (F9, F0)] w fun r w' => r = .returned (.bool true) ∧ Below w.heap.size w w' := by
  have h64 : ∀ p, p ∈ [(F0, F0), (F9, F9), (F1, F2), (F9, F0)] → pt64 p := pts64 (by decide)
  have hok : [(F0, F0), (F9, F9), (F1, F2), (F9, F0)].all ptOK = true := by decide +kernel
  have hf : fastRun F0 F0 F9 F9 F1 F2 F9 F0 = some (1, true) := by decide +kernel
  have hs : signI (F0, F0) (F9, F9) (F1, F2) = 1 := by decide +kernel
  refine cwithin_walk (t := 1) (s := 1) (fun w => ?_) (fun w => ?_) (by decide) w
  · have := orient_sign (F0, F0) (F9, F9) (F1, F2) (pts64 (by decide)) w
    rwa [hs] at this
  · exact csign_fast F0 F0 F9 F9 F1 F2 F9 F0 1 (cfast_walk h64 hok hf) w

theorem wt3 (w : World) : Calls Tryz.prog 136 #[V (F9, F0), V (F1, F2), V (F0, F0), V (F9, F9)] w fun r w' => r = .returned (.bool false) ∧ Below w.heap.size w w' := by
  have h64 : ∀ p, p ∈ [(F9, F0), (F1, F2), (F0, F0), (F9, F9)] → pt64 p := pts64 (by decide)
  have hok : [(F9, F0), (F1, F2), (F0, F0), (F9, F9)].all ptOK = true := by decide +kernel
  have hf : fastRun F9 F0 F1 F2 F0 F0 F9 F9 = some (-1, true) := by decide +kernel
  have hs : signI (F9, F0) (F1, F2) (F0, F0) = 1 := by decide +kernel
  refine cwithin_walk (t := 1) (s := -1) (fun w => ?_) (fun w => ?_) (by decide) w
  · have := orient_sign (F9, F0) (F1, F2) (F0, F0) (pts64 (by decide)) w
    rwa [hs] at this
  · exact csign_fast F9 F0 F1 F2 F0 F0 F9 F9 (-1) (cfast_walk h64 hok hf) w

end Go.Proofs.YtdoaniccefdkaaaGreatDoor

/- (*mesh.Mesh).Add at a point that is refused. -/
namespace Go.Proofs.YtdoaniccefdkaaaGreatDoor
open Go.RowKit Go.Maps Go.WideMaps

set_option maxRecDepth 100000 in
set_option maxHeartbeats 1000000 in
theorem add_bad {mb : Nat} (p : Pt) (h64 : pt64 p) (hp : ptOK p = false) (w : World) :
    Calls Tryz.prog 31 #[.pointer (some ⟨mb, 0, none⟩), V p] w fun r w' => r = .returned (.tuple #[.int .i64 0, .int .i64 10]) ∧ Below w.heap.size w w' := by
  have HM := Lib.hid (fun w1 => may_walk p h64 w1)
  rw [hp] at HM
  clear hp h64
  unfold V at *
  have wa : Below w.heap.size w (w.alloc (.cells #[.float .f64 p.1, .float .f64 p.2] 52)) := (Below.refl _ w).alloc (Nat.le_refl _) _
  go_enter Tryz.func31, Tryz.ntmps31
  go_wp2_with (go_at_call 95; with_reducible refine (HM.out _).mono ?_; rintro r w1 ⟨rfl, hb1⟩)
  go_ret2
  exact ⟨rfl, wa.trans (hb1.mono wa.size)⟩

end Go.Proofs.YtdoaniccefdkaaaGreatDoor

/- slices.Clone of a row of numbers. -/
namespace Go.Proofs.YtdoaniccefdkaaaGreatDoor
open Go.RowKit Go.Maps Go.WideMaps

set_option maxRecDepth 100000 in
set_option maxHeartbeats 1000000 in
theorem cloneI_nil (cap : Nat) (w : World) :
    Calls Tryz.prog 98 #[.slice none 0 cap] w fun e w' => e = .returned (.slice none 0 0) ∧ w' = w := by
  have q22 : ∀ (w : World) (a : Option Addr) (n c n' c' : Nat), (binOp .eql 72 (.slice a n c) (.slice none n' c')).run Tryz.prog w = .ok (.bool a.isNone) w := fun w a n c n' c' => Lib.run_eql_slice_nil w _ _ a n c n' c' Tryz.underlying72
  go_enter Tryz.func98, Tryz.ntmps98
  go_wp2
  go_ret
  exact ⟨rfl, rfl⟩

set_option maxRecDepth 100000 in
set_option maxHeartbeats 1000000 in
theorem cloneI_some (l : List Int) (a : Addr) (cap : Nat) (hl : l.length ≤ 2000000000) (w : World) (hc : ∀ j u, (l.map (Value.int .i64))[j]? = some u → w.cell? (a.add j) = some u) :
    Calls Tryz.prog 98 #[.slice (some a) l.length cap] w fun e w' => ∃ v', e = .returned v' ∧ w'.ownsRow w.heap.size 3 1 v' l.length (l.map (Value.int .i64)) ∧ Below w.heap.size w w' := by
  obtain ⟨i0, hi, hz0, hz1, hz2⟩ := info_parts infoInt
  have HC := Lib.hid hc
  clear hc
  have h1 := Lib.hid (ints_oneCell .i64 l)
  have q22 : ∀ (w : World) (a : Option Addr) (n c n' c' : Nat), (binOp .eql 72 (.slice a n c) (.slice none n' c')).run Tryz.prog w = .ok (.bool a.isNone) w := fun w a n c n' c' => Lib.run_eql_slice_nil w _ _ a n c n' c' Tryz.underlying72
  go_enter Tryz.func98, Tryz.ntmps98
  go_wp2_with (at_builtin; refine wpList_append_own _ rfl _ _ 72 rfl w.heap.size 3 i0 (.int .i64 0) 1 8 Tryz.underlying72 hi hz0 hz1 hz2 rfl (by decide) _ _ _ rfl (World.ownsRow_made w #[] 0 (Nat.le_refl _) (Nat.zero_le _) (by simp)) a l.length cap (l.map (Value.int .i64)) rfl ?qc1 ?qc2 ?qc3 ?qc4 ?qc5 ?qc6 ?_)
  case qc1 => simp
  case qc2 => intro j u hj; exact Lib.cell?_alloc_some _ (HC.out j u hj)
  case qc3 => exact h1.out
  case qc4 => unfold maxLen; omega
  case qc5 => omega
  case qc6 => simp
  intro v' w1 hown hgrow hnil
  go_wp2
  go_ret
  refine ⟨v', rfl, by simpa using hown, ((Below.refl _ w).alloc (Nat.le_refl _) _).grown hgrow (by simp) (by intro k hk; simp [Value.ownBlock] at hk; omega)⟩

theorem cloneI_walk {w : World} {v : Value} {l : List Int} (h : w.ownsInts 0 3 .i64 v l) (hl : l.length ≤ 2000000000) :
    Calls Tryz.prog 98 #[v] w fun e w' => ∃ v', e = .returned v' ∧ w'.ownsInts w.heap.size 3 .i64 v' l ∧ Below w.heap.size w w' := by
  obtain ⟨ad, cap, rfl, hc⟩ := ints_cells h
  cases ad with
  | none =>
    have h0 : l.length = 0 := by
      apply Classical.byContradiction; intro hn
      obtain ⟨_, e, _⟩ := hc (by omega)
      cases e
    have : l = [] := List.length_eq_zero_iff.1 h0
    subst this
    refine (cloneI_nil cap w).mono ?_
    rintro r w' ⟨rfl, rfl⟩
    exact ⟨_, rfl, World.ownsInts_nil _ _ _ _, Below.refl _ _⟩
  | some a =>
    refine (cloneI_some l a cap hl w ?_).mono ?_
    · intro j u hu
      have hj : j < l.length := by simpa using (List.getElem?_eq_some_iff.1 hu).1
      obtain ⟨g, e, _, hcc⟩ := hc (by omega)
      cases e
      rw [Addr.add_lit, Nat.zero_add, hcc j hj, ← hu, List.getElem?_map, List.getElem?_eq_getElem hj, List.getD_eq_getElem?_getD, List.getElem?_eq_getElem hj]
      rfl
    · rintro r w' ⟨v', rfl, ho, hb⟩
      exact ⟨v', rfl, ⟨ho, h.2⟩, hb⟩

end Go.Proofs.YtdoaniccefdkaaaGreatDoor

/- maps.Clone of a map of edges. -/
namespace Go.Proofs.YtdoaniccefdkaaaGreatDoor
open Go.RowKit Go.Maps Go.WideMaps

theorem cloneMap_walk {b n : Nat} {f : Value → Option Value} {w : World} (h : FMap Tryz.prog w 117 b n f) :
    Calls Tryz.prog 97 #[.map (some b)] w fun e w' => e = .returned (.map (some w.heap.size)) ∧ FMap Tryz.prog w' 117 w.heap.size n f ∧ Below w.heap.size w w' := by
  obtain ⟨D, hown, hD⟩ := h
  have hc := AnyW.maps_Clone_owns (P := Tryz.prog) Tryz.cloneMap 117 tokR b n D w hown
  change Calls Tryz.prog 97 _ _ _ at hc
  refine hc.mono ?_
  rintro r w' ⟨rfl, h1, _, hb⟩
  exact ⟨rfl, ⟨D, h1, hD⟩, hb⟩

end Go.Proofs.YtdoaniccefdkaaaGreatDoor

/- What a range over a mesh's spokes has copied so far; a mesh beside another one. -/
namespace Go.Proofs.YtdoaniccefdkaaaGreatDoor
open Go.RowKit Go.Maps Go.WideMaps

theorem FRange.cnt_le {P : Program} {k : TypeId} {w : World} {b r n cnt : Nat} {f : Value → Option Value} {lf : Value → Bool} (h : FRange P w k b r n f lf cnt) : cnt ≤ n := by
  obtain ⟨D, left, ⟨es, clock, since, seen, c0, hb, hF, hs, hD, hr, hold, hc, h3⟩, h2⟩ := h
  rw [← hc]
  unfold leftOf
  exact Nat.le_trans (Array.size_filter_le ..) hs

theorem FMap.keyed {P : Program} {k : TypeId} {w : World} {b n : Nat} {f : Value → Option Value} (h : FMap P w k b n f) {key : Value} (hk : f key ≠ none) : ∃ kl, keyOf P k key = some kl := by
  obtain ⟨D, _, hD⟩ := h; exact hD.key key hk

/-- the rows that a range has copied: lf says which keys are still to come -/
structure CRows (w : World) (base : Nat) (lf : Value → Bool) (sv sv2 : Int → Option Value) (sp : Int → List Int) : Prop where
  non : ∀ a, sv2 a = Option.none → sv a = Option.none ∨ lf (vI a) = true
  own : ∀ a v, sv2 a = some v → w.ownsInts base 3 .i64 v (sp a)
  dis : ∀ a a' v v', a ≠ a' → sv2 a = some v → sv2 a' = some v' → v.ownBlock = Option.none ∨ v.ownBlock ≠ v'.ownBlock

theorem CRows.start {w : World} {base : Nat} {lf : Value → Bool} {sv : Int → Option Value} {sp : Int → List Int} (h : ∀ a, sv a ≠ none → lf (vI a) = true) : CRows w base lf sv (fun _ => none) sp :=
  ⟨fun a _ => (Classical.em (sv a = none)).imp id (h a), fun _ _ e => (by cases e), fun _ _ _ _ _ e => (by cases e)⟩

theorem CRows.lt {w : World} {base : Nat} {lf : Value → Bool} {sv sv2 : Int → Option Value} {sp : Int → List Int} (h : CRows w base lf sv sv2 sp) {a : Int} {v : Value} {g : Nat} (hv : sv2 a = some v) (hg : v.ownBlock = some g) : base ≤ g ∧ g < w.heap.size :=
  (h.own a v hv).1.lt g hg

theorem CRows.same {w w' : World} {base : Nat} {lf : Value → Bool} {sv sv2 : Int → Option Value} {sp : Int → List Int} (h : CRows w base lf sv sv2 sp) (hb : ∀ g, base ≤ g → g < w.heap.size → w'.heap[g]? = w.heap[g]?) : CRows w' base lf sv sv2 sp :=
  ⟨h.non, fun a v hv => ⟨ownsRow_same (h.own a v hv).1 fun g hg => hb g (h.lt hv hg).1 (h.lt hv hg).2, (h.own a v hv).2⟩, h.dis⟩

theorem CRows.step {w : World} {base low : Nat} {lf lf' : Value → Bool} {sv sv2 : Int → Option Value} {sp : Int → List Int} {a : Int} {v : Value} (h : CRows w base lf sv sv2 sp) (hlow : ∀ a' v' g, sv2 a' = some v' → v'.ownBlock = some g → g < low) (hbl : base ≤ low)
    (hv : w.ownsInts low 3 .i64 v (sp a)) (hl2 : ∀ y, y ≠ vI a → lf' y = lf y) : CRows w base lf' sv (upI sv2 a (some v)) sp := by
  refine ⟨fun x hx => ?_, fun x u hx => ?_, fun x y u t hne hx hy => ?_⟩
  · unfold upI at hx
    split at hx
    · cases hx
    · rename_i hxa
      exact (h.non x hx).imp id fun e => by rw [hl2 _ (fun e2 => hxa (vI_inj.1 e2))]; exact e
  · unfold upI at hx
    split at hx
    · rename_i hxa
      cases hx; subst hxa
      exact ⟨ownsRow_down hbl hv.1, hv.2⟩
    · exact h.own x u hx
  · unfold upI at hx hy
    split at hx
    · rename_i hxa
      cases hx
      split at hy
      · rename_i hya; exact absurd (hxa.trans hya.symm) hne
      · cases e : v.ownBlock with
        | none => exact .inl rfl
        | some g =>
          right; intro e2
          have h1 := (hv.1.lt g e).1
          have h2 := hlow y t g hy e2.symm
          omega
    · split at hy
      · rename_i hya
        cases hy
        cases e : u.ownBlock with
        | none => exact .inl rfl
        | some g =>
          right; intro e2
          have h1 := (hv.1.lt g e2.symm).1
          have h2 := hlow x u g hx e
          omega
      · exact h.dis x y u t hne hx hy

theorem CRows.down {w : World} {base base' : Nat} {lf : Value → Bool} {sv sv2 : Int → Option Value} {sp : Int → List Int} (h : CRows w base lf sv sv2 sp) (hb : base' ≤ base) : CRows w base' lf sv sv2 sp :=
  ⟨h.non, fun a v hv => ⟨ownsRow_down hb (h.own a v hv).1, (h.own a v hv).2⟩, h.dis⟩

/-- what stands ahead of the range: the new mesh, without spokes -/
structure Head (w w1 : World) (mb ba bs bf n : Nat) (pv : Value) (M : MeshM) : Prop where
  c0 : w1.cell? ⟨mb, 0, none⟩ = some pv
  c1 : w1.cell? ⟨mb, 1, none⟩ = some (.map (some ba))
  c2 : w1.cell? ⟨mb, 2, none⟩ = some (.map (some bs))
  c3 : w1.cell? ⟨mb, 3, none⟩ = some (.int .i64 M.cnt)
  c4 : w1.cell? ⟨mb, 4, none⟩ = some (.map (some bf))
  fz : ∀ i, w1.frozen? ⟨mb, i, none⟩ = false
  pts : w1.ownsRow w.heap.size 52 2 pv M.P.length (cellsP M.P)
  apm : FMap Tryz.prog w1 117 ba n (edgeV M.ap)
  fxm : FMap Tryz.prog w1 117 bf n (edgeV M.fx)
  spm : FMap Tryz.prog w1 3 bs 0 (intV fun _ => none)
  nab : ba ≠ bs
  naf : ba ≠ bf
  nsf : bs ≠ bf
  npm : pv.ownBlock ≠ some mb
  nps : pv.ownBlock ≠ some bs
  nmb : mb ≠ bs
  lo : w.heap.size ≤ mb ∧ w.heap.size ≤ ba ∧ w.heap.size ≤ bs ∧ w.heap.size ≤ bf
  hi : mb < w1.heap.size
  bel : Below w.heap.size w w1

/-- the new mesh behind the range -/
theorem Head.done {w w1 w2 : World} {mb ba bs bf n n2 : Nat} {pv : Value} {M : MeshM} {sv sv2 : Int → Option Value} {lf : Value → Bool} (h : Head w w1 mb ba bs bf n pv M) (hst : ∀ i, i < w1.heap.size → i ≠ bs → w2.heap[i]? = w1.heap[i]?) (hsz : w1.heap.size ≤ w2.heap.size) (hn2 : n2 ≤ n)
    (hf : FMap Tryz.prog w2 3 bs n2 (intV sv2)) (hr : CRows w2 w1.heap.size lf sv sv2 M.sp) (hlf : ∀ k, lf k = false) (hsp : ∀ a, sv a = none → M.sp a = []) (hspl : ∀ a, (M.sp a).length ≤ n) (hcb : -(n : Int) ≤ M.cnt ∧ M.cnt ≤ n) :
    MeshAt w2 mb n M (fun i => w.heap.size ≤ i ∧ i < w2.heap.size) := by
  have hs := h.bel.size
  have hc : ∀ i, w2.cell? ⟨mb, i, none⟩ = w1.cell? ⟨mb, i, none⟩ := fun i => World.cell?_of_block (hst mb h.hi h.nmb)
  have hla := h.apm.lt
  have hlf' := h.fxm.lt
  have hlb := h.spm.lt
  have hlo := h.lo
  have hhi := h.hi
  have hpv : ∀ g, pv.ownBlock = some g → w.heap.size ≤ g ∧ g < w1.heap.size := fun g hg => h.pts.lt g hg
  exact ⟨ba, bs, bf, pv, sv2, (hc 0).trans h.c0, (hc 1).trans h.c1, (hc 2).trans h.c2, (hc 3).trans h.c3, (hc 4).trans h.c4, fun i => (World.frozen?_of_block (hst mb h.hi h.nmb)).trans (h.fz i),
    ownsRow_down (Nat.zero_le _) (ownsRow_same h.pts fun g hg => hst g (hpv g hg).2 (fun e => h.nps (by rw [hg, e]))),
    h.apm.same (hst ba hla h.nab), hf.mono hn2, h.fxm.same (hst bf hlf' (fun e => h.nsf e.symm)),
    ⟨fun a ha => hsp a ((hr.non a ha).resolve_right (by rw [hlf]; simp)), fun a v hv => ⟨ownsRow_down (Nat.zero_le _) (hr.own a v hv).1, (hr.own a v hv).2⟩, hr.dis, fun a v g hv hg => ⟨⟨by have := (hr.lt hv hg).1; omega, (hr.lt hv hg).2⟩, fun e => by
      have h1 := (hr.lt hv hg).1
      rcases e with e | e
      · omega
      · have := (hpv g e).2; omega⟩⟩,
    h.nab, h.naf, h.nsf, h.npm, ⟨hlo.1, by omega⟩, ⟨hlo.2.1, by omega⟩, ⟨hlo.2.2.1, by omega⟩, ⟨hlo.2.2.2, by omega⟩, fun g hg => ⟨(hpv g hg).1, by have := (hpv g hg).2; omega⟩, fun g hg => hg.2, hspl, hcb⟩

/-- one mesh stays while another one turns -/
theorem MB.apart {w0 w w' : World} {mb n : Nat} {M : MeshM} {F G : Nat → Prop} (h : MB w0 w mb n M F) (hs : Stay G w w') (hk : Below w0.heap.size w0 w') (hd : ∀ i, F i → ¬G i) : MB w0 w' mb n M F :=
  ⟨h.at_.same hs.size fun g hg => hs.block g (h.at_.flt g hg) (hd g hg), h.new, hk⟩

end Go.Proofs.YtdoaniccefdkaaaGreatDoor

/- (*mesh.Mesh).Copy. -/
namespace Go.Proofs.YtdoaniccefdkaaaGreatDoor
open Go.RowKit Go.Maps Go.WideMaps

theorem below_drop {w w' : World} {o : Obj} (h : Below (w.alloc o).heap.size (w.alloc o) w') : Below w.heap.size w w' :=
  ((Below.refl w.heap.size w).alloc (Nat.le_refl _) o).trans (h.mono (by simp))

theorem cell_stays {w w' : World} {p : Addr} {v : Value} (h : w.cell? p = some v) (hb : Below w.heap.size w w') : w'.cell? p = some v :=
  (hb.cell (p := p) (World.block_lt_of_cell? _ _ h)).trans h
/-- the mesh's cells, as the walk reads them -/
def Src (w w' : World) (mb : Nat) (p a c f : Value) : Prop :=
  w'.cell? ⟨mb, 0, none⟩ = some p ∧ w'.cell? ⟨mb, 1, none⟩ = some a ∧ w'.cell? ⟨mb, 3, none⟩ = some c ∧ w'.cell? ⟨mb, 4, none⟩ = some f ∧ Below w.heap.size w w'
theorem Src.below {w w1 w2 : World} {mb : Nat} {p a c f : Value} (h : Src w w1 mb p a c f) (hmb : mb < w.heap.size) (hb : Below w1.heap.size w1 w2) : Src w w2 mb p a c f := by
  have hs := h.2.2.2.2.size
  exact ⟨(hb.cell (p := ⟨mb, 0, none⟩) (by dsimp only; omega)).trans h.1, (hb.cell (p := ⟨mb, 1, none⟩) (by dsimp only; omega)).trans h.2.1, (hb.cell (p := ⟨mb, 3, none⟩) (by dsimp only; omega)).trans h.2.2.1, (hb.cell (p := ⟨mb, 4, none⟩) (by dsimp only; omega)).trans h.2.2.2.1, h.2.2.2.2.trans (hb.mono hs)⟩
theorem Src.alloc {w w1 : World} {mb : Nat} {p a c f : Value} (h : Src w w1 mb p a c f) (hmb : mb < w.heap.size) (o : Obj) : Src w (w1.alloc o) mb p a c f :=
  h.below hmb ((Below.refl _ _).alloc (Nat.le_refl _) o)

theorem head_mk {w w1 w2 w3 Wb A : World} {n b2 b3 cap2 : Nat} {ad2 : Option Addr} {M : MeshM} (B1 : Below w.heap.size w w1) (c12 : Below w1.heap.size w1 w2) (c23 : Below w2.heap.size w2 w3) (c3b : Below w3.heap.size w3 Wb)
    (H1 : w1.ownsRow w.heap.size 52 2 (.slice ad2 M.P.length cap2) M.P.length (cellsP M.P)) (H2 : FMap Tryz.prog w2 117 b2 n (edgeV M.ap)) (H3 : FMap Tryz.prog w3 117 b3 n (edgeV M.fx))
    (lo2 : w1.heap.size ≤ b2) (lo3 : w2.heap.size ≤ b3) (HA : w.heap.size ≤ A.heap.size) (hA : Below (A.alloc (.map #[] 0)).heap.size (A.alloc (.map #[] 0)) Wb) (n2 : A.heap.size ≠ b2) (n3 : A.heap.size ≠ b3) :
    Head w (Wb.alloc (.cells #[.slice ad2 M.P.length cap2, .map (some b2), .map (some A.heap.size), .int .i64 M.cnt, .map (some b3)] 116)) Wb.heap.size b2 A.heap.size b3 n (.slice ad2 M.P.length cap2) M := by
  have e2 := H2.lt
  have e3 := H3.lt
  have z1 := B1.size
  have z2 := c12.size
  have z3 := c23.size
  have z4 := c3b.size
  have zA : A.heap.size < Wb.heap.size := by have := hA.size; simp at this; omega
  have c2b := c23.trans (c3b.mono z3)
  have c1b := c12.trans (c2b.mono z2)
  have cal := (Below.refl Wb.heap.size Wb).alloc (Nat.le_refl _) (.cells #[.slice ad2 M.P.length cap2, .map (some b2), .map (some A.heap.size), .int .i64 M.cnt, .map (some b3)] 116)
  have hp : ∀ g, (Value.slice ad2 M.P.length cap2).ownBlock = some g → w.heap.size ≤ g ∧ g < w1.heap.size := fun g hg => H1.lt g hg
  have hown := ownsRow_same H1 (fun g hg => ((c1b.trans (cal.mono (by omega))).block g (hp g hg).2))
  have hmap : FMap Tryz.prog Wb 3 A.heap.size 0 (fun _ => none) := (FMap.made Tryz.prog A 3).same (hA.block _ (by simp))
  have hmap' := hmap.same (cal.block _ zA)
  have hcell : ∀ i, (Wb.alloc (.cells #[.slice ad2 M.P.length cap2, .map (some b2), .map (some A.heap.size), .int .i64 M.cnt, .map (some b3)] 116)).cell? ⟨Wb.heap.size, i, none⟩ = #[Value.slice ad2 M.P.length cap2, .map (some b2), .map (some A.heap.size), .int .i64 M.cnt, .map (some b3)][i]? := by
    intro i; rw [World.cell?_alloc_at _ _ _ _ rfl]
  obtain ⟨es, clk, hm2⟩ := hmap'.isMap
  refine ⟨hcell 0, hcell 1, hcell 2, hcell 3, hcell 4, ?_, hown, (H2.same (c2b.block _ e2)).same (cal.block _ (by omega)), (H3.same (c3b.block _ e3)).same (cal.block _ (by omega)), by rw [intV_none]; exact hmap', fun e => n2 e.symm, by omega, n3, ?_, ?_, by omega, ⟨by omega, by omega, HA, by omega⟩, by simp, (B1.trans (c1b.mono z1)).trans (cal.mono (by omega))⟩
  · intro i
    unfold World.frozen?
    rw [heap_alloc_new]; simp
  · intro e
    have := hp _ e
    omega
  · intro e
    rcases hown.2 with ⟨h1, _⟩ | ⟨g', cp, cur, h1, _, hh, _⟩
    · rw [h1] at e; simp [Value.ownBlock] at e
    · rw [h1] at e; simp [Value.ownBlock] at e; subst e; rw [hm2] at hh; cases hh

/-- what the range over the spokes keeps -/
def CInv (Wh wr : World) (bs X n : Nat) (sv : Int → Option Value) (sp : Int → List Int) (lf : Value → Bool) (cnt : Nat) : Prop :=
  ∃ n2 sv2, FRange Tryz.prog wr 3 bs Wh.heap.size n (intV sv) lf cnt ∧ FMap Tryz.prog wr 3 X n2 (intV sv2) ∧ n2 + cnt ≤ n ∧ CRows wr (Wh.heap.size + 1) lf sv sv2 sp ∧ Stay (fun i => i = X) Wh wr ∧ Wh.heap.size < wr.heap.size

theorem CInv.start {w Wh w0 : World} {bs n MB b2 X b3 : Nat} {pv2 : Value} {sv : Int → Option Value} {M : MeshM} {cnt : Nat} (hd : Head w Wh MB b2 X b3 n pv2 M)
    (hr : FRange Tryz.prog w0 3 bs Wh.heap.size n (intV sv) (fun x => (intV sv x).isSome) cnt) (hg : Wh.grownBy w0 none) (hs : w0.heap.size = Wh.heap.size + 1) : CInv Wh w0 bs X n sv M.sp (fun x => (intV sv x).isSome) cnt :=
  ⟨0, fun _ => none, hr, hd.spm.kept hg (by simp), by have := hr.cnt_le; omega, CRows.start (fun a ha => by rw [intV_at]; exact Option.isSome_iff_ne_none.2 ha), Stay.of_grown hg (fun j hj => by cases hj), by omega⟩

theorem CInv.round {w Wh wr w1 W W' : World} {mb ba bs bf n MB b2 X b3 : Nat} {pv pv2 v v' : Value} {sv : Int → Option Value} {M : MeshM} {F : Nat → Prop} {cnt cnt1 : Nat} {lf lf1 : Value → Bool} {a : Int} (h : MeshParts w mb ba bs bf n pv sv M F) (hd : Head w Wh MB b2 X b3 n pv2 M) (hn : n ≤ 1000000000)
    (hi : CInv Wh wr bs X n sv M.sp lf cnt) (hsv : sv a = some v) (hl2 : ∀ y, y ≠ vI a → lf1 y = lf y) (hrg : FRange Tryz.prog w1 3 bs Wh.heap.size n (intV sv) lf1 cnt1) (hlt : cnt1 < cnt) (hg1 : wr.grownBy w1 (some Wh.heap.size)) (hs1 : w1.heap.size = wr.heap.size)
    (hW : W.heap = w1.heap) (hb : Below W.heap.size W W') (hWos : W.os = w1.os ∧ W.tape = w1.tape ∧ W.output = w1.output) (hv' : W'.ownsInts W.heap.size 3 .i64 v' (M.sp a)) :
    ∃ W2, (Instr.mapUpdate 114 (.map (some X)) (vI a) v').run Tryz.prog W' = .ok () W2 ∧ CInv Wh W2 bs X n sv M.sp lf1 cnt1 ∧ W'.grownBy W2 (some X) := by
  obtain ⟨n2, sv2, hr, hf, hle, hcr, hst, hsz⟩ := hi
  have hXlt := hd.spm.lt
  have hXr : X ≠ Wh.heap.size := by omega
  have hbs : bs < w.heap.size := h.flt _ h.fbs
  have hlo := hd.lo
  have hbX : bs ≠ X := by omega
  have hsW : W.heap.size = w1.heap.size := by rw [hW]
  have g1 : w1.grownBy W' none := ⟨hb.os.trans hWos.1, hb.tape.trans hWos.2.1, hb.output.trans hWos.2.2, by have := hb.size; omega, fun i hi _ => by rw [hb.block i (by omega), hW]⟩
  have hf1 := (hf.kept hg1 (by simpa using hXr)).kept g1 (by simp)
  obtain ⟨kl, hkl⟩ := hr.owns.keyed (key := vI a) (by rw [intV_at, hsv]; simp)
  obtain ⟨W2, hrun, hf2, hg2⟩ := hf1.store intLaw Tryz.underlying114 (by unfold maxLen; omega) hkl v'
  have hl := hb.size
  have hl2' := hg2.size
  refine ⟨W2, hrun, ⟨n2 + 1, upI sv2 a (some v'), (hrg.kept g1 (by simp) (by simp)).kept hg2 (by simpa using hbX) (by simp; omega), by rw [← intV_up]; exact hf2, by omega, ?_, ?_, by omega⟩, hg2⟩
  · have hcr1 : CRows W' (Wh.heap.size + 1) lf sv sv2 M.sp := by
      refine (hcr.same (w' := w1) fun g h1 h2 => hg1.block g h2 (by simp; omega)).same fun g h1 h2 => ?_
      exact g1.block g h2 (by simp)
    have hlow : ∀ a' u g, sv2 a' = some u → u.ownBlock = some g → g < W.heap.size := fun a' u g hu hg => by have := (hcr.lt hu hg).2; omega
    have hst2 := (hcr1.step (a := a) (v := v') (low := W.heap.size) (lf' := lf1) hlow (by omega) hv' hl2)
    refine hst2.same fun g h1 h2 => hg2.block g h2 (by simp; omega)
  · refine ⟨hg2.os.trans (g1.os.trans (hg1.os.trans hst.os)), hg2.tape.trans (g1.tape.trans (hg1.tape.trans hst.tape)), hg2.output.trans (g1.output.trans (hg1.output.trans hst.output)), by have := hst.size; omega, fun i hi hne => ?_⟩
    have := hst.size
    rw [hg2.block i (by omega) (by simpa using hne), g1.block i (by omega) (by simp), hg1.block i (by omega) (by simp; omega)]
    exact hst.block i hi hne

theorem CInv.row {w Wh wr w1 : World} {mb ba bs bf n MB b2 X b3 : Nat} {pv pv2 v : Value} {sv : Int → Option Value} {M : MeshM} {F : Nat → Prop} {cnt : Nat} {lf : Value → Bool} {a : Int} (h : MeshParts w mb ba bs bf n pv sv M F) (hd : Head w Wh MB b2 X b3 n pv2 M)
    (hi : CInv Wh wr bs X n sv M.sp lf cnt) (hsv : sv a = some v) (hg1 : wr.grownBy w1 (some Wh.heap.size)) : w1.ownsInts 0 3 .i64 v (M.sp a) := by
  obtain ⟨n2, sv2, hr, hf, hle, hcr, hst, hsz⟩ := hi
  have ho := h.rows.own a v hsv
  refine ⟨ownsRow_same ho.1 fun g hg => ?_, ho.2⟩
  have hlt := h.flt g (h.rows.inF a v g hsv hg).1
  have hlo := hd.lo
  have h1 := hd.bel.size
  rw [hg1.block g (by omega) (by simp; omega), hst.block g (by omega) (by omega), hd.bel.block g hlt]

theorem CInv.cell {w Wh wr w1 : World} {bs n MB b2 X b3 : Nat} {pv2 : Value} {sv : Int → Option Value} {M : MeshM} {cnt : Nat} {lf : Value → Bool} (hd : Head w Wh MB b2 X b3 n pv2 M)
    (hi : CInv Wh wr bs X n sv M.sp lf cnt) (hg1 : wr.grownBy w1 (some Wh.heap.size)) : w1.cell? ⟨MB, 2, none⟩ = some (.map (some X)) := by
  obtain ⟨n2, sv2, hr, hf, hle, hcr, hst, hsz⟩ := hi
  have := hd.hi
  have := hst.size
  exact (World.cell?_of_block (hg1.block MB (by omega) (by simp; omega))).trans ((World.cell?_of_block (hst.block MB hd.hi hd.nmb)).trans hd.c2)

theorem CInv.done {w Wh wr : World} {mb ba bs bf n MB b2 X b3 : Nat} {pv pv2 : Value} {sv : Int → Option Value} {M : MeshM} {F : Nat → Prop} {cnt : Nat} {lf : Value → Bool} (h : MeshParts w mb ba bs bf n pv sv M F) (hd : Head w Wh MB b2 X b3 n pv2 M)
    (hi : CInv Wh wr bs X n sv M.sp lf cnt) (hlf : ∀ k, lf k = false) : MeshAt wr MB n M (fun i => w.heap.size ≤ i ∧ i < wr.heap.size) ∧ Below w.heap.size w wr := by
  obtain ⟨n2, sv2, hr, hf, hle, hcr, hst, hsz⟩ := hi
  refine ⟨hd.done (fun i h1 h2 => hst.block i h1 h2) hst.size (by omega) hf (hcr.down (by omega)) hlf h.rows.none h.spl h.cb, ?_⟩
  have hlo := hd.lo
  have h1 := hd.bel
  exact h1.trans ⟨hst.os, hst.tape, hst.output, hst.size, fun i hi => hst.block i (by have := h1.size; omega) (by omega)⟩

set_option maxRecDepth 100000 in
set_option maxHeartbeats 4000000 in
theorem copy_walk {w : World} {mb n : Nat} {M : MeshM} {F : Nat → Prop} (h : MeshAt w mb n M F) (hl : M.P.length ≤ 1048576) (hn : n ≤ 1000000000) :
    Calls Tryz.prog 37 #[.pointer (some ⟨mb, 0, none⟩)] w fun r w' => ∃ mb2, r = .returned (.pointer (some ⟨mb2, 0, none⟩)) ∧ MeshAt w' mb2 n M (fun i => w.heap.size ≤ i ∧ i < w'.heap.size) ∧ Below w.heap.size w w' := by
  obtain ⟨ba, bs, bf, pv, sv, h⟩ := h
  obtain ⟨ad, cap, rfl, hp⟩ := h.ptcells
  have HMB := Lib.hid (h.flt mb h.fmb)
  have n0 : Src w w.drew mb (.slice ad M.P.length cap) (.map (some ba)) (.int .i64 M.cnt) (.map (some bf)) := ⟨h.c0, h.c1, h.c3, h.c4, (Below.refl _ w).drew⟩
  have HC1 : Hid (∀ W, Src w W mb (.slice ad M.P.length cap) (.map (some ba)) (.int .i64 M.cnt) (.map (some bf)) → Calls Tryz.prog 88 #[.slice ad M.P.length cap] W fun r W' => ∃ ad2 cap2, r = .returned (.slice ad2 M.P.length cap2) ∧ Hid (W'.ownsRow w.heap.size 52 2 (.slice ad2 M.P.length cap2) M.P.length (cellsP M.P)) ∧ Below W.heap.size W W' ∧ Src w W' mb (.slice ad M.P.length cap) (.map (some ba)) (.int .i64 M.cnt) (.map (some bf))) := by
    intro W hS
    refine (clone_walk M.P ad cap hl W (hp.below hS.2.2.2.2)).mono ?_
    rintro r W' ⟨v', rfl, ho, hb⟩
    obtain ⟨ad2, cap2, rfl⟩ := ownsRow_shape ho
    exact ⟨ad2, cap2, rfl, ownsRow_down hS.2.2.2.2.size ho, hb, hS.below HMB.out hb⟩
  have HC2 : Hid (∀ W, Src w W mb (.slice ad M.P.length cap) (.map (some ba)) (.int .i64 M.cnt) (.map (some bf)) → Calls Tryz.prog 97 #[.map (some ba)] W fun r W' => ∃ b2, r = .returned (.map (some b2)) ∧ W.heap.size ≤ b2 ∧ Hid (FMap Tryz.prog W' 117 b2 n (edgeV M.ap)) ∧ Below W.heap.size W W' ∧ Src w W' mb (.slice ad M.P.length cap) (.map (some ba)) (.int .i64 M.cnt) (.map (some bf))) := by
    intro W hS
    refine (cloneMap_walk (h.apm.same (hS.2.2.2.2.block ba (h.flt _ h.fba)))).mono ?_
    rintro r W' ⟨rfl, hf, hb⟩
    exact ⟨_, rfl, Nat.le_refl _, hf, hb, hS.below HMB.out hb⟩
  have HC3 : Hid (∀ W, Src w W mb (.slice ad M.P.length cap) (.map (some ba)) (.int .i64 M.cnt) (.map (some bf)) → Calls Tryz.prog 97 #[.map (some bf)] W fun r W' => ∃ b2, r = .returned (.map (some b2)) ∧ W.heap.size ≤ b2 ∧ Hid (FMap Tryz.prog W' 117 b2 n (edgeV M.fx)) ∧ Below W.heap.size W W' ∧ Src w W' mb (.slice ad M.P.length cap) (.map (some ba)) (.int .i64 M.cnt) (.map (some bf))) := by
    intro W hS
    refine (cloneMap_walk (h.fxm.same (hS.2.2.2.2.block bf (h.flt _ h.fbf)))).mono ?_
    rintro r W' ⟨rfl, hf, hb⟩
    exact ⟨_, rfl, Nat.le_refl _, hf, hb, hS.below HMB.out hb⟩
  have HSP := Lib.hid h
  have HL := Lib.hid hl
  have HNN := Lib.hid hn
  have hmm := @run_makeMap Tryz.prog
  clear h hp hl hn
  go_enter Tryz.func37, Tryz.ntmps37
  go_wp2
  unfold Src at *
  go_region_held3 (fun w' => w'.cell? ⟨mb, 0, none⟩ = some (.slice ad M.P.length cap) ∧ w'.cell? ⟨mb, 1, none⟩ = some (.map (some ba)) ∧ w'.cell? ⟨mb, 3, none⟩ = some (.int .i64 M.cnt) ∧ w'.cell? ⟨mb, 4, none⟩ = some (.map (some bf)) ∧ Below w.heap.size w w') (first | assumption | exact Src.alloc (by assumption) HMB.out _)
    (first
      | (go_at_call 88; refine (HC1.out _ ?_).mono ?_; assumption; rintro r w1 ⟨ad2, cap2, rfl, HO1, hb1, n1⟩)
      | (go_at_call 97; with_reducible refine (HC2.out _ ?_).mono ?_; assumption; rintro r w2 ⟨b2, rfl, hlo2, HF2, hb2, n2⟩)
      | (go_at_call 97; with_reducible refine (HC3.out _ ?_).mono ?_; assumption; rintro r w3 ⟨b3, rfl, hlo3, HF3, hb3, n3⟩))
  clear n0 HC1 HC2 HC3 hmm
  · have hd := head_mk (A := w2) (Wb := w3) n1.2.2.2.2 hb2 (below_drop hb3) (Below.refl _ _) HO1.out HF2.out HF3.out (by have := hlo2; (try simp at this); omega) (by have := hlo3; (try simp at this); omega) (by have h1 := n1.2.2.2.2.size; have h2 := hb2.size; have h3 := hb3.size; (try simp at h1 h2 h3); omega) hb3 (by have h1 := hlo2; have h2 := HF2.out.lt; have h3 := hb3.size; have h4 := hb1.size; (try simp at h1 h2 h3 h4); omega) (by have h1 := hlo3; have h2 := HF3.out.lt; have h3 := hb2.size; have h4 := hb1.size; (try simp at h1 h2 h3 h4); omega)
    have HD := Lib.hid hd
    clear hd hb1 hb2 hb3 n1 n2 n3 HO1 HF2 HF3 hlo2 hlo3
    generalize hWh : World.alloc _ (.cells #[.slice ad2 M.P.length cap2, .map (some b2), .map (some w2.heap.size), .int .i64 M.cnt, .map (some b3)] 116) = Wh at *
    clear hWh
    have c2 : Wh.cell? ⟨mb, 2, none⟩ = some (.map (some bs)) := (HSP.out.below HD.out.bel).c2
    have HFS := Lib.hid (HSP.out.below HD.out.bel).spm
    go_wp2_with (at_range; refine wp_range _ rfl _ 114 rfl 3 72 intLaw Tryz.underlying114 bs n _ rfl HFS.out ?_; intro w0 hrg0 hg0 hs0)
    go_frame
    have HI0 := Lib.hid (CInv.start HD.out hrg0 hg0 hs0)
    clear hrg0 hg0 hs0 c2
    go_loopw [] (fun wr => ∃ lf cnt, Hid (CInv Wh wr bs w2.heap.size n sv M.sp lf cnt)) (fun wr => wr.rangeLeft bs Wh.heap.size)
    case atStart => exact ⟨_, _, HI0.out⟩
    case round =>
      obtain ⟨lf, cnt, HI⟩ := hrel
      have HR : Hid (FRange Tryz.prog wr 3 bs Wh.heap.size n (intV sv) lf cnt) := by obtain ⟨n2, sv2, hr, _⟩ := HI.out; exact hr
      go_wp2_with (first | (at_next; refine wp_next _ rfl _ rfl 3 intLaw vI (fun v : Value => v) bs Wh.heap.size n (intV sv) (fun key h => intV_ne h) (fun key v h => ⟨v, rfl⟩) lf cnt rfl HR.out ?_ ?_) | go_in)
      · intro hd
        have HF := Lib.hid (CInv.done HSP.out HD.out HI.out hd)
        clear hd
        go_wp2
        go_ret
        exact ⟨_, rfl, HF.out.1, HF.out.2⟩
      · intro a v w4 cnt1 lf1 hlx hfx hl1 hl2 hrg1 hlt1 hg1 hs1 hen
        have hsv : sv a = some v := hfx
        have n4' : w4.cell? ⟨w3.heap.size, 2, none⟩ = some (.map (some w2.heap.size)) := CInv.cell HD.out HI.out hg1
        have n4 : w4.drew.cell? ⟨w3.heap.size, 2, none⟩ = some (.map (some w2.heap.size)) := n4'
        have HROW := Lib.hid (CInv.row HSP.out HD.out HI.out hsv hg1)
        have HLT := Lib.hid hlt1
        have HC5 : Hid (Calls Tryz.prog 98 #[v] w4.drew fun r w5 => ∃ v' w6, r = .returned v' ∧ w5.cell? ⟨w3.heap.size, 2, none⟩ = some (.map (some w2.heap.size)) ∧ (Instr.mapUpdate 114 (.map (some w2.heap.size)) (.int .i64 a) v').run Tryz.prog w5 = .ok () w6 ∧ w6.cell? ⟨w3.heap.size, 2, none⟩ = some (.map (some w2.heap.size)) ∧ Hid (CInv Wh w6 bs (w2.heap.size) n sv M.sp lf1 cnt1)) := by
          refine (cloneI_walk (w := w4.drew) HROW.out (by have := HSP.out.spl a; have := HNN.out; omega)).mono ?_
          rintro r w5 ⟨v', rfl, ho5, hb5⟩
          obtain ⟨w6, hrun6, hi6, hg6⟩ := CInv.round (W := w4.drew) HSP.out HD.out HNN.out HI.out hsv hl2 hrg1 hlt1 hg1 hs1 rfl hb5 ⟨rfl, rfl, rfl⟩ ho5
          have n5 := cell_stays (w := w4.drew) n4 hb5
          exact ⟨v', w6, rfl, n5, hrun6, hg6.cell n5 (by have := HD.out.nmb; simpa using this), hi6⟩
        clear hlx hfx hl1 hl2 hrg1 hlt1 hg1 hs1 hsv HROW n4'
        simp only [vI] at hen
        go_wp2
        go_region_held3 (fun w' => w'.cell? ⟨w3.heap.size, 2, none⟩ = some (.map (some (w2.heap.size)))) (first | assumption | exact n4 | exact n5 | exact n6)
          (first | (go_at_call 98; refine HC5.out.mono ?_; rintro r w5 ⟨v', w6, rfl, n5, hrun6, n6, HI6⟩))
        all_goals
          go_wp2
          go_roundw
          case rel => exact ⟨lf1, cnt1, HI6.out⟩
          case measure =>
            obtain ⟨n2, sv2, hr6, _⟩ := HI6.out
            rw [hr6.left_eq, HR.out.left_eq]
            exact HLT.out
  · have hd := head_mk (A := w3) (Wb := (w3.alloc (.map #[] 0))) n1.2.2.2.2 hb2 hb3 ((Below.refl _ w3).alloc (Nat.le_refl _) _) HO1.out HF2.out HF3.out (by have := hlo2; (try simp at this); omega) (by have := hlo3; (try simp at this); omega) (by have h1 := n1.2.2.2.2.size; have h2 := hb2.size; have h3 := hb3.size; (try simp at h1 h2 h3); omega) (Below.refl _ _) (by have h1 := hlo2; have h2 := HF2.out.lt; have h3 := hb3.size; have h4 := hb1.size; (try simp at h1 h2 h3 h4); omega) (by have h1 := hlo3; have h2 := HF3.out.lt; have h3 := hb2.size; have h4 := hb1.size; (try simp at h1 h2 h3 h4); omega)
    have hz : (w3.alloc (.map #[] 0)).heap.size = w3.heap.size + 1 := by simp
    rw [hz] at hd
    clear hz
    have HD := Lib.hid hd
    clear hd hb1 hb2 hb3 n1 n2 n3 HO1 HF2 HF3 hlo2 hlo3
    generalize hWh : World.alloc _ (.cells #[.slice ad2 M.P.length cap2, .map (some b2), .map (some w3.heap.size), .int .i64 M.cnt, .map (some b3)] 116) = Wh at *
    clear hWh
    have c2 : Wh.cell? ⟨mb, 2, none⟩ = some (.map (some bs)) := (HSP.out.below HD.out.bel).c2
    have HFS := Lib.hid (HSP.out.below HD.out.bel).spm
    go_wp2_with (at_range; refine wp_range _ rfl _ 114 rfl 3 72 intLaw Tryz.underlying114 bs n _ rfl HFS.out ?_; intro w0 hrg0 hg0 hs0)
    go_frame
    have HI0 := Lib.hid (CInv.start HD.out hrg0 hg0 hs0)
    clear hrg0 hg0 hs0 c2
    go_loopw [] (fun wr => ∃ lf cnt, Hid (CInv Wh wr bs w3.heap.size n sv M.sp lf cnt)) (fun wr => wr.rangeLeft bs Wh.heap.size)
    case atStart => exact ⟨_, _, HI0.out⟩
    case round =>
      obtain ⟨lf, cnt, HI⟩ := hrel
      have HR : Hid (FRange Tryz.prog wr 3 bs Wh.heap.size n (intV sv) lf cnt) := by obtain ⟨n2, sv2, hr, _⟩ := HI.out; exact hr
      go_wp2_with (first | (at_next; refine wp_next _ rfl _ rfl 3 intLaw vI (fun v : Value => v) bs Wh.heap.size n (intV sv) (fun key h => intV_ne h) (fun key v h => ⟨v, rfl⟩) lf cnt rfl HR.out ?_ ?_) | go_in)
      · intro hd
        have HF := Lib.hid (CInv.done HSP.out HD.out HI.out hd)
        clear hd
        go_wp2
        go_ret
        exact ⟨_, rfl, HF.out.1, HF.out.2⟩
      · intro a v w4 cnt1 lf1 hlx hfx hl1 hl2 hrg1 hlt1 hg1 hs1 hen
        have hsv : sv a = some v := hfx
        have n4' : w4.cell? ⟨w3.heap.size + 1, 2, none⟩ = some (.map (some w3.heap.size)) := CInv.cell HD.out HI.out hg1
        have n4 : w4.drew.cell? ⟨w3.heap.size + 1, 2, none⟩ = some (.map (some w3.heap.size)) := n4'
        have HROW := Lib.hid (CInv.row HSP.out HD.out HI.out hsv hg1)
        have HLT := Lib.hid hlt1
        have HC5 : Hid (Calls Tryz.prog 98 #[v] w4.drew fun r w5 => ∃ v' w6, r = .returned v' ∧ w5.cell? ⟨w3.heap.size + 1, 2, none⟩ = some (.map (some w3.heap.size)) ∧ (Instr.mapUpdate 114 (.map (some w3.heap.size)) (.int .i64 a) v').run Tryz.prog w5 = .ok () w6 ∧ w6.cell? ⟨w3.heap.size + 1, 2, none⟩ = some (.map (some w3.heap.size)) ∧ Hid (CInv Wh w6 bs (w3.heap.size) n sv M.sp lf1 cnt1)) := by
          refine (cloneI_walk (w := w4.drew) HROW.out (by have := HSP.out.spl a; have := HNN.out; omega)).mono ?_
          rintro r w5 ⟨v', rfl, ho5, hb5⟩
          obtain ⟨w6, hrun6, hi6, hg6⟩ := CInv.round (W := w4.drew) HSP.out HD.out HNN.out HI.out hsv hl2 hrg1 hlt1 hg1 hs1 rfl hb5 ⟨rfl, rfl, rfl⟩ ho5
          have n5 := cell_stays (w := w4.drew) n4 hb5
          exact ⟨v', w6, rfl, n5, hrun6, hg6.cell n5 (by simp), hi6⟩
        clear hlx hfx hl1 hl2 hrg1 hlt1 hg1 hs1 hsv HROW n4'
        simp only [vI] at hen
        go_wp2
        go_region_held3 (fun w' => w'.cell? ⟨w3.heap.size + 1, 2, none⟩ = some (.map (some (w3.heap.size)))) (first | assumption | exact n4 | exact n5 | exact n6)
          (first | (go_at_call 98; refine HC5.out.mono ?_; rintro r w5 ⟨v', w6, rfl, n5, hrun6, n6, HI6⟩))
        all_goals
          go_wp2
          go_roundw
          case rel => exact ⟨lf1, cnt1, HI6.out⟩
          case measure =>
            obtain ⟨n2, sv2, hr6, _⟩ := HI6.out
            rw [hr6.left_eq, HR.out.left_eq]
            exact HLT.out
  · have hd := head_mk (A := w1) (Wb := w3) n1.2.2.2.2 (below_drop hb2) hb3 (Below.refl _ _) HO1.out HF2.out HF3.out (by have := hlo2; (try simp at this); omega) (by have := hlo3; (try simp at this); omega) (by have h1 := n1.2.2.2.2.size; have h2 := hb2.size; have h3 := hb3.size; (try simp at h1 h2 h3); omega) (hb2.trans (hb3.mono hb2.size)) (by have h1 := hlo2; have h2 := HF2.out.lt; have h3 := hb3.size; have h4 := hb1.size; (try simp at h1 h2 h3 h4); omega) (by have h1 := hlo3; have h2 := HF3.out.lt; have h3 := hb2.size; have h4 := hb1.size; (try simp at h1 h2 h3 h4); omega)
    have HD := Lib.hid hd
    clear hd hb1 hb2 hb3 n1 n2 n3 HO1 HF2 HF3 hlo2 hlo3
    generalize hWh : World.alloc _ (.cells #[.slice ad2 M.P.length cap2, .map (some b2), .map (some w1.heap.size), .int .i64 M.cnt, .map (some b3)] 116) = Wh at *
    clear hWh
    have c2 : Wh.cell? ⟨mb, 2, none⟩ = some (.map (some bs)) := (HSP.out.below HD.out.bel).c2
    have HFS := Lib.hid (HSP.out.below HD.out.bel).spm
    go_wp2_with (at_range; refine wp_range _ rfl _ 114 rfl 3 72 intLaw Tryz.underlying114 bs n _ rfl HFS.out ?_; intro w0 hrg0 hg0 hs0)
    go_frame
    have HI0 := Lib.hid (CInv.start HD.out hrg0 hg0 hs0)
    clear hrg0 hg0 hs0 c2
    go_loopw [] (fun wr => ∃ lf cnt, Hid (CInv Wh wr bs w1.heap.size n sv M.sp lf cnt)) (fun wr => wr.rangeLeft bs Wh.heap.size)
    case atStart => exact ⟨_, _, HI0.out⟩
    case round =>
      obtain ⟨lf, cnt, HI⟩ := hrel
      have HR : Hid (FRange Tryz.prog wr 3 bs Wh.heap.size n (intV sv) lf cnt) := by obtain ⟨n2, sv2, hr, _⟩ := HI.out; exact hr
      go_wp2_with (first | (at_next; refine wp_next _ rfl _ rfl 3 intLaw vI (fun v : Value => v) bs Wh.heap.size n (intV sv) (fun key h => intV_ne h) (fun key v h => ⟨v, rfl⟩) lf cnt rfl HR.out ?_ ?_) | go_in)
      · intro hd
        have HF := Lib.hid (CInv.done HSP.out HD.out HI.out hd)
        clear hd
        go_wp2
        go_ret
        exact ⟨_, rfl, HF.out.1, HF.out.2⟩
      · intro a v w4 cnt1 lf1 hlx hfx hl1 hl2 hrg1 hlt1 hg1 hs1 hen
        have hsv : sv a = some v := hfx
        have n4' : w4.cell? ⟨w3.heap.size, 2, none⟩ = some (.map (some w1.heap.size)) := CInv.cell HD.out HI.out hg1
        have n4 : w4.drew.cell? ⟨w3.heap.size, 2, none⟩ = some (.map (some w1.heap.size)) := n4'
        have HROW := Lib.hid (CInv.row HSP.out HD.out HI.out hsv hg1)
        have HLT := Lib.hid hlt1
        have HC5 : Hid (Calls Tryz.prog 98 #[v] w4.drew fun r w5 => ∃ v' w6, r = .returned v' ∧ w5.cell? ⟨w3.heap.size, 2, none⟩ = some (.map (some w1.heap.size)) ∧ (Instr.mapUpdate 114 (.map (some w1.heap.size)) (.int .i64 a) v').run Tryz.prog w5 = .ok () w6 ∧ w6.cell? ⟨w3.heap.size, 2, none⟩ = some (.map (some w1.heap.size)) ∧ Hid (CInv Wh w6 bs (w1.heap.size) n sv M.sp lf1 cnt1)) := by
          refine (cloneI_walk (w := w4.drew) HROW.out (by have := HSP.out.spl a; have := HNN.out; omega)).mono ?_
          rintro r w5 ⟨v', rfl, ho5, hb5⟩
          obtain ⟨w6, hrun6, hi6, hg6⟩ := CInv.round (W := w4.drew) HSP.out HD.out HNN.out HI.out hsv hl2 hrg1 hlt1 hg1 hs1 rfl hb5 ⟨rfl, rfl, rfl⟩ ho5
          have n5 := cell_stays (w := w4.drew) n4 hb5
          exact ⟨v', w6, rfl, n5, hrun6, hg6.cell n5 (by have := HD.out.nmb; simpa using this), hi6⟩
        clear hlx hfx hl1 hl2 hrg1 hlt1 hg1 hs1 hsv HROW n4'
        simp only [vI] at hen
        go_wp2
        go_region_held3 (fun w' => w'.cell? ⟨w3.heap.size, 2, none⟩ = some (.map (some (w1.heap.size)))) (first | assumption | exact n4 | exact n5 | exact n6)
          (first | (go_at_call 98; refine HC5.out.mono ?_; rintro r w5 ⟨v', w6, rfl, n5, hrun6, n6, HI6⟩))
        all_goals
          go_wp2
          go_roundw
          case rel => exact ⟨lf1, cnt1, HI6.out⟩
          case measure =>
            obtain ⟨n2, sv2, hr6, _⟩ := HI6.out
            rw [hr6.left_eq, HR.out.left_eq]
            exact HLT.out
  · have hd := head_mk (A := w) (Wb := w3) n1.2.2.2.2 hb2 hb3 (Below.refl _ _) HO1.out HF2.out HF3.out (by have := hlo2; (try simp at this); omega) (by have := hlo3; (try simp at this); omega) (by have h1 := n1.2.2.2.2.size; have h2 := hb2.size; have h3 := hb3.size; (try simp at h1 h2 h3); omega) ((Below.refl _ (w.alloc (.map #[] 0))).drew.trans (hb1.trans ((hb2.trans (hb3.mono hb2.size)).mono hb1.size))) (by have h1 := hlo2; have h2 := HF2.out.lt; have h3 := hb3.size; have h4 := hb1.size; (try simp at h1 h2 h3 h4); omega) (by have h1 := hlo3; have h2 := HF3.out.lt; have h3 := hb2.size; have h4 := hb1.size; (try simp at h1 h2 h3 h4); omega)
    have HD := Lib.hid hd
    clear hd hb1 hb2 hb3 n1 n2 n3 HO1 HF2 HF3 hlo2 hlo3
    generalize hWh : World.alloc _ (.cells #[.slice ad2 M.P.length cap2, .map (some b2), .map (some w.heap.size), .int .i64 M.cnt, .map (some b3)] 116) = Wh at *
    clear hWh
    have c2 : Wh.cell? ⟨mb, 2, none⟩ = some (.map (some bs)) := (HSP.out.below HD.out.bel).c2
    have HFS := Lib.hid (HSP.out.below HD.out.bel).spm
    go_wp2_with (at_range; refine wp_range _ rfl _ 114 rfl 3 72 intLaw Tryz.underlying114 bs n _ rfl HFS.out ?_; intro w0 hrg0 hg0 hs0)
    go_frame
    have HI0 := Lib.hid (CInv.start HD.out hrg0 hg0 hs0)
    clear hrg0 hg0 hs0 c2
    go_loopw [] (fun wr => ∃ lf cnt, Hid (CInv Wh wr bs w.heap.size n sv M.sp lf cnt)) (fun wr => wr.rangeLeft bs Wh.heap.size)
    case atStart => exact ⟨_, _, HI0.out⟩
    case round =>
      obtain ⟨lf, cnt, HI⟩ := hrel
      have HR : Hid (FRange Tryz.prog wr 3 bs Wh.heap.size n (intV sv) lf cnt) := by obtain ⟨n2, sv2, hr, _⟩ := HI.out; exact hr
      go_wp2_with (first | (at_next; refine wp_next _ rfl _ rfl 3 intLaw vI (fun v : Value => v) bs Wh.heap.size n (intV sv) (fun key h => intV_ne h) (fun key v h => ⟨v, rfl⟩) lf cnt rfl HR.out ?_ ?_) | go_in)
      · intro hd
        have HF := Lib.hid (CInv.done HSP.out HD.out HI.out hd)
        clear hd
        go_wp2
        go_ret
        exact ⟨_, rfl, HF.out.1, HF.out.2⟩
      · intro a v w4 cnt1 lf1 hlx hfx hl1 hl2 hrg1 hlt1 hg1 hs1 hen
        have hsv : sv a = some v := hfx
        have n4' : w4.cell? ⟨w3.heap.size, 2, none⟩ = some (.map (some w.heap.size)) := CInv.cell HD.out HI.out hg1
        have n4 : w4.drew.cell? ⟨w3.heap.size, 2, none⟩ = some (.map (some w.heap.size)) := n4'
        have HROW := Lib.hid (CInv.row HSP.out HD.out HI.out hsv hg1)
        have HLT := Lib.hid hlt1
        have HC5 : Hid (Calls Tryz.prog 98 #[v] w4.drew fun r w5 => ∃ v' w6, r = .returned v' ∧ w5.cell? ⟨w3.heap.size, 2, none⟩ = some (.map (some w.heap.size)) ∧ (Instr.mapUpdate 114 (.map (some w.heap.size)) (.int .i64 a) v').run Tryz.prog w5 = .ok () w6 ∧ w6.cell? ⟨w3.heap.size, 2, none⟩ = some (.map (some w.heap.size)) ∧ Hid (CInv Wh w6 bs (w.heap.size) n sv M.sp lf1 cnt1)) := by
          refine (cloneI_walk (w := w4.drew) HROW.out (by have := HSP.out.spl a; have := HNN.out; omega)).mono ?_
          rintro r w5 ⟨v', rfl, ho5, hb5⟩
          obtain ⟨w6, hrun6, hi6, hg6⟩ := CInv.round (W := w4.drew) HSP.out HD.out HNN.out HI.out hsv hl2 hrg1 hlt1 hg1 hs1 rfl hb5 ⟨rfl, rfl, rfl⟩ ho5
          have n5 := cell_stays (w := w4.drew) n4 hb5
          exact ⟨v', w6, rfl, n5, hrun6, hg6.cell n5 (by have := HD.out.nmb; simpa using this), hi6⟩
        clear hlx hfx hl1 hl2 hrg1 hlt1 hg1 hs1 hsv HROW n4'
        simp only [vI] at hen
        go_wp2
        go_region_held3 (fun w' => w'.cell? ⟨w3.heap.size, 2, none⟩ = some (.map (some (w.heap.size)))) (first | assumption | exact n4 | exact n5 | exact n6)
          (first | (go_at_call 98; refine HC5.out.mono ?_; rintro r w5 ⟨v', w6, rfl, n5, hrun6, n6, HI6⟩))
        all_goals
          go_wp2
          go_roundw
          case rel => exact ⟨lf1, cnt1, HI6.out⟩
          case measure =>
            obtain ⟨n2, sv2, hr6, _⟩ := HI6.out
            rw [hr6.left_eq, HR.out.left_eq]
            exact HLT.out

end Go.Proofs.YtdoaniccefdkaaaGreatDoor

/- The meshes of the examples in MeshNames, plainly. -/
namespace Go.Proofs.YtdoaniccefdkaaaGreatDoor
open Go.RowKit Tvf

theorem makeR_no {M : MeshM} {a b c : Int} (h : makeCode M a b c ≠ 0) : makeR M a b c = M := by unfold makeR; rw [if_neg h]
theorem killR_no {M : MeshM} {a b c : Int} (h : killCode M a b c ≠ 0) : killR M a b c = M := by
  unfold killR killCode at *
  split
  · rename_i e; rw [if_pos e] at h; exact absurd rfl h
  · rfl

def nmA : MeshM := makeR (emptyM sqP) 2 0 1
def nmB : MeshM := killR nmA 1 2 0
def nmC : MeshM := fxM nmB (upE nmB.fx (minI 1 0) (maxI 1 0) 5)
theorem nm_c0 : makeCode (emptyM sqP) 2 0 1 = 0 := by decide +kernel
theorem nm_c1 : makeCode sq1 0 1 3 = 14 := by decide +kernel
theorem nm_c2 : makeCode nmA 0 2 1 = 14 := by decide +kernel
theorem nm_c3 : makeCode nmA 2 0 1 = 14 := by decide +kernel
theorem nm_c4 : makeCode nmA 0 1 9 = 11 := by decide +kernel
theorem nm_c5 : makeCode nmA (-1) 0 1 = 11 := by decide +kernel
theorem nm_c6 : makeCode nmA 0 0 1 = 14 := by decide +kernel
theorem nm_k1 : killCode nmA 1 2 0 = 0 := by decide +kernel
theorem nm_k2 : killCode nmB 1 2 0 = 5 := by decide +kernel
theorem nm_kB : killR nmA 1 2 0 = nmB := by rw [nmB]
theorem nm_kC : killR nmB 1 2 0 = nmB := killR_no (by rw [nm_k2]; decide)
theorem nmA_P : nmA.P = sqP := makeR_P _ _ _ _
theorem nmB_P : nmB.P = sqP := (killR_P _ _ _ _).trans nmA_P
theorem nm_h0 : hasM nmB 0 = true := by decide +kernel
theorem nm_h1 : hasM nmB 1 = true := by decide +kernel
theorem nm_h4 : hasM nmB 4 = false := by decide +kernel
theorem nm_f1 : nmC.fx (minI 2 3) (maxI 2 3) = none := by decide +kernel
theorem nm_f2 : nmC.fx (minI 0 1) (maxI 0 1) = some 5 := by decide +kernel

theorem sq_allOk : allOk (emptyM sqP) [(0, 1, 2), (1, 3, 2)] := by
  have h1 := sq_c1
  have h2 := sq_c2
  unfold sq1 at h2
  simp only [allOk]
  exact ⟨h1, h2, trivial⟩
theorem nm_allOk : allOk (emptyM sqP) [(2, 0, 1)] := by
  have h1 := nm_c0
  simp only [allOk]
  exact ⟨h1, trivial⟩
theorem sq_fold : foldM (emptyM sqP) [(0, 1, 2), (1, 3, 2)] = sqM := by simp only [foldM_cons, foldM_nil, sqM, sq1]
theorem nm_fold : foldM (emptyM sqP) [(2, 0, 1)] = nmA := by simp only [foldM_cons, foldM_nil, nmA]

def nmO1 : MeshM := killR sqM 1 3 2
def nmO2 : MeshM := killR nmO1 0 1 2
theorem no_k1 : killCode sqM 1 3 2 = 0 := by decide +kernel
theorem no_k2 : killCode nmO1 0 1 2 = 0 := by decide +kernel
theorem no_cnt : nmO2.cnt = 0 := by decide +kernel
theorem no_raw : rawOf nmO2.ap 1 (nmO2.sp 1) = [] := by decide +kernel
theorem no_c : makeCode nmO2 0 3 2 = 0 := by decide +kernel
theorem no_kO1 : killR sqM 1 3 2 = nmO1 := by rw [nmO1]
theorem no_kO2 : killR nmO1 0 1 2 = nmO2 := by rw [nmO2]
theorem nmO2_P : nmO2.P = sqP := (killR_P _ _ _ _).trans ((killR_P _ _ _ _).trans sqM_P)
theorem no_sound : Sound nmO2 := killR_sound (killR_sound sq_sound _ _ _) _ _ _
theorem no_spokes : (spokesL nmO2 1).length = 0 := by
  unfold spokesL
  rw [no_raw]
  have : sortL [] = [] := by unfold sortL; rw [List.mergeSort_of_pairwise]; simp
  rw [this]
  decide +kernel
theorem sq_raw1 : rawOf sqM.ap 1 (sqM.sp 1) = [2, 0, 3, 2] := by decide +kernel
theorem sort4 : sortL [2, 0, 3, 2] = [0, 2, 2, 3] := by
  refine List.Perm.eq_of_pairwise (le := fun x y : Int => x ≤ y) (fun a b _ _ h1 h2 => by omega) ?_ ?_ ?_
  · have := List.pairwise_mergeSort (le := fun x y : Int => decide (x ≤ y)) (fun a b c h1 h2 => by simp at *; omega) (fun a b => by simp; omega) [2, 0, 3, 2]
    unfold sortL
    exact this.imp fun h => by simpa using h
  · decide
  · exact (List.mergeSort_perm _ _).trans (by decide)
theorem sq_spokes1 : (spokesL sqM 1).length = 3 := by
  unfold spokesL
  rw [sq_raw1, sort4]
  decide +kernel

end Go.Proofs.YtdoaniccefdkaaaGreatDoor
