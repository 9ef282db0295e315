/- Part of the proof. No conditions. -/
import Derived.Test.YtdoaniccefdkaaaGreatDoorZN
import Derived.Test.YtdoaniccefdkaaaGreatDoorZX

set_option linter.all false
/- trivetlaw17.FlipBack: the walk. -/
namespace Go.Proofs.YtdoaniccefdkaaaGreatDoor
open Go.RowKit Tvf Go.Maps Go.WideMaps

theorem tris_short15 (ap : Int → Int → Option Int) (n : Nat) : (trisL ap n).length ≤ n * n := by
  unfold trisL
  rw [List.length_map]
  refine Nat.le_trans (List.length_filter_le _ _) ?_
  unfold idxL
  rw [List.length_flatMap]
  simp only [List.length_map, List.length_range, List.map_const', List.sum_replicate_nat]
  exact Nat.le_refl _

set_option maxRecDepth 100000 in
set_option maxHeartbeats 4000000 in
theorem fback_big {w : World} {ap at_ sa : Option Addr} {np cp nt ct ns cs : Nat} (a b : Int) (h : 60 < np ∨ 120 < nt ∨ 60 < ns) :
    Calls Tryz.prog 3 #[.agg #[.slice ap np cp, .slice at_ nt ct, .slice sa ns cs], .int .i64 a, .int .i64 b] w fun r w' => r = .returned (.bool true) ∧ Below w.heap.size w w' := by
  have HWK := Lib.hid fworks_walk
  have HB0 : Hid (∀ o, Below w.heap.size w (w.alloc o)) := fun o => (Below.refl _ _).alloc (Nat.le_refl _) o
  have HC := Lib.hid (fun W (hb : Below (w.alloc (.cells #[.slice ap np cp, .slice at_ nt ct, .slice sa ns cs] 26)).heap.size (w.alloc (.cells #[.slice ap np cp, .slice at_ nt ct, .slice sa ns cs] 26)) W) => (C3.new w (.slice ap np cp) (.slice at_ nt ct) (.slice sa ns cs) 26).below hb)
  have HLG : Hid (∀ W, Calls Tryz.prog 16 #[.agg #[.slice ap np cp, .slice at_ nt ct, .slice sa ns cs]] W fun r w' => r = .returned (.bool true) ∧ Below W.heap.size W w') := fun W => by
    have e : (decide (60 < np) || (decide (120 < nt) || decide (60 < ns))) = true := by simp; omega
    have := large17 ap at_ sa np cp nt ct ns cs W
    rw [e] at this
    exact this
  clear h
  go_enter Tryz.func3, Tryz.ntmps3
  go_wp2_with (first
    | (go_at_call 16; (with_reducible refine (HLG.out _).mono ?_); rintro r w2 ⟨rfl, hb2⟩; have B2 := Lib.hid (bseq B1.out hb2))
    | (go_at_call 15; (with_reducible refine (HWK.out _).mono ?_); rintro r w3 ⟨rfl, hb3⟩; have B3 := Lib.hid (bseq B2.out hb3))
    | (go_at_call 15; (with_reducible refine (HWK.out _).mono ?_); rintro r w1 ⟨rfl, hb1⟩; obtain ⟨c0, c1, c2⟩ := HC.out _ hb1; have B1 := Lib.hid (bseq (HB0.out _) hb1)))
  go_ret
  exact ⟨rfl, B3.out⟩

set_option maxRecDepth 100000 in
set_option maxHeartbeats 4000000 in
theorem fback_nil {w : World} {l : List Pt} {ap : Option Addr} {cp : Nat} {T : List Tri3} {at_ : Option Addr} {ct : Nat} {S : List Seg3} {sa : Option Addr} {cs : Nat} (h : GivenV w l ap cp T at_ ct S sa cs) (hk : allCode l ≠ 0) (hl : l.length ≤ 60) (hT : T.length ≤ 120) (hS : S.length ≤ 60) (a b : Int) :
    Calls Tryz.prog 3 #[.agg #[.slice ap l.length cp, .slice at_ T.length ct, .slice sa S.length cs], .int .i64 a, .int .i64 b] w fun r w' => r = .returned (.bool true) ∧ Below w.heap.size w w' := by
  have HWK := Lib.hid fworks_walk
  have HB0 : Hid (∀ o, Below w.heap.size w (w.alloc o)) := fun o => (Below.refl _ _).alloc (Nat.le_refl _) o
  have HC := Lib.hid (fun W (hb : Below (w.alloc (.cells #[.slice ap l.length cp, .slice at_ T.length ct, .slice sa S.length cs] 26)).heap.size (w.alloc (.cells #[.slice ap l.length cp, .slice at_ T.length ct, .slice sa S.length cs] 26)) W) => (C3.new w (.slice ap l.length cp) (.slice at_ T.length ct) (.slice sa S.length cs) 26).below hb)
  have HLG : Hid (∀ W, Calls Tryz.prog 16 #[.agg #[.slice ap l.length cp, .slice at_ T.length ct, .slice sa S.length cs]] W fun r w' => r = .returned (.bool false) ∧ Below W.heap.size W w') := fun W => by
    have e : (decide (60 < l.length) || (decide (120 < T.length) || decide (60 < S.length))) = false := by simp; omega
    have := large17 ap at_ sa l.length cp T.length ct S.length cs W
    rw [e] at this
    exact this
  have HMD := Lib.hid (fun W (hb : Below w.heap.size w W) => made17_bad (at_ := at_) (nt := T.length) (ct := ct) (sa := sa) (ns := S.length) (cs := cs) (cp := cp) (h.p.below hb) h.p64 hk)
  clear h hk hl hT hS
  go_enter Tryz.func3, Tryz.ntmps3
  go_wp2_with (first
    | (go_at_call 15; (with_reducible refine (HWK.out _).mono ?_); rintro r w1 ⟨rfl, hb1⟩; have k1 := HC.out _ hb1; have K1 := Lib.hid k1; obtain ⟨c0, c1, c2⟩ := k1; have B1 := Lib.hid (bseq (HB0.out _) hb1))
    | (go_at_call 16; (with_reducible refine (HLG.out _).mono ?_); rintro r w2 ⟨rfl, hb2⟩; clear c0 c1 c2; obtain ⟨c0, c1, c2⟩ := K1.out.below hb2; have B2 := Lib.hid (bseq B1.out hb2))
    | (go_at_call 17; (with_reducible refine (HMD.out _ B2.out).mono ?_); rintro r w3 ⟨rfl, hb3⟩; have B3 := Lib.hid (bseq B2.out hb3)))
  go_ret
  exact ⟨rfl, B3.out⟩

set_option maxRecDepth 100000 in
set_option maxHeartbeats 16000000 in
theorem fback_main {w : World} {l : List Pt} {ap : Option Addr} {cp : Nat} {T : List Tri3} {at_ : Option Addr} {ct : Nat} {S : List Seg3} {sa : Option Addr} {cs : Nat} (h : GivenV w l ap cp T at_ ct S sa cs) (hk : allCode l = 0) (hl : l.length ≤ 60) (hT : T.length ≤ 120) (hS : S.length ≤ 60) {a b : Int} (ha : i64ok a) (hb : i64ok b) :
    Calls Tryz.prog 3 #[.agg #[.slice ap l.length cp, .slice at_ T.length ct, .slice sa S.length cs], .int .i64 a, .int .i64 b] w fun r w' => r = .returned (.bool true) ∧ Below w.heap.size w w' := by
  have HWK := Lib.hid fworks_walk
  have HB0 : Hid (∀ o, Below w.heap.size w (w.alloc o)) := fun o => (Below.refl _ _).alloc (Nat.le_refl _) o
  have HC := Lib.hid (fun W (hb : Below (w.alloc (.cells #[.slice ap l.length cp, .slice at_ T.length ct, .slice sa S.length cs] 26)).heap.size (w.alloc (.cells #[.slice ap l.length cp, .slice at_ T.length ct, .slice sa S.length cs] 26)) W) => (C3.new w (.slice ap l.length cp) (.slice at_ T.length ct) (.slice sa S.length cs) 26).below hb)
  have HLG : Hid (∀ W, Calls Tryz.prog 16 #[.agg #[.slice ap l.length cp, .slice at_ T.length ct, .slice sa S.length cs]] W fun r w' => r = .returned (.bool false) ∧ Below W.heap.size W w') := fun W => by
    have e : (decide (60 < l.length) || (decide (120 < T.length) || decide (60 < S.length))) = false := by simp; omega
    have := large17 ap at_ sa l.length cp T.length ct S.length cs W
    rw [e] at this
    exact this
  have HMD : Hid (∀ W, Below w.heap.size w W → Calls Tryz.prog 17 #[.agg #[.slice ap l.length cp, .slice at_ T.length ct, .slice sa S.length cs]] W fun r w' => ∃ mb, r = .returned (.pointer (some ⟨mb, 0, none⟩)) ∧ Hid (∃ W0 n M F, Below w.heap.size w W0 ∧ MB W0 w' mb n M F ∧ Sound M ∧ M.P = l ∧ n ≤ 1000)) := fun W hb => by
    refine (made17_ok (h.below hb) hk hl hT hS).mono ?_
    rintro r w' ⟨mb, rfl, hx⟩
    obtain ⟨W0, n, M, F, h1, h2⟩ := hx.out
    exact ⟨mb, rfl, W0, n, M, F, hb.trans (h1.mono hb.size), h2⟩
  have H64 := Lib.hid h.p64
  have HAB : Hid (i64ok a ∧ i64ok b) := ⟨ha, hb⟩
  have HLL := Lib.hid hl
  clear h hk hl hT hS ha hb
  go_enter Tryz.func3, Tryz.ntmps3
  go_upto_region 4 with (first
    | (go_at_call 15; (with_reducible refine (HWK.out _).mono ?_); rintro r w1 ⟨rfl, hb1⟩; have k1 := HC.out _ hb1; have K1 := Lib.hid k1; obtain ⟨c0, c1, c2⟩ := k1; have B1 := Lib.hid (bseq (HB0.out _) hb1))
    | (go_at_call 16; (with_reducible refine (HLG.out _).mono ?_); rintro r w2 ⟨rfl, hb2⟩; clear c0 c1 c2; obtain ⟨c0, c1, c2⟩ := K1.out.below hb2; have B2 := Lib.hid (bseq B1.out hb2))
    | (go_at_call 17; (with_reducible refine (HMD.out _ B2.out).mono ?_); rintro r w3 ⟨mb, rfl, HX⟩))
  clear c0 c1 c2 K1 HC HB0 HLG HMD HWK hb1 hb2 B1 B2
  obtain ⟨W0, n, M, F, hbW, hm, hsd, hP, hn⟩ := HX.out
  have h64' : ∀ p, p ∈ M.P → pt64 p := by rw [hP]; exact H64.out
  have hl' : M.P.length ≤ 1048576 := by rw [hP]; have := HLL.out; omega
  have HFIN : Hid (∀ W n M F, MB W0 W mb n M F → Below w.heap.size w W) := fun W n M F hm => hbW.trans (hm.keep.mono hbW.size)
  obtain ⟨L, hL⟩ : ∃ L, Hid (trisL M.ap M.P.length = L) := ⟨_, rfl⟩
  have HLB : Hid (L.length ≤ 1000000000000) := by
    have h1 := tris_short15 M.ap M.P.length
    have h2 : M.P.length * M.P.length ≤ 60 * 60 := Nat.mul_le_mul (by rw [hP]; exact HLL.out) (by rw [hP]; exact HLL.out)
    rw [hL.out] at h1
    unfold Hid; omega
  obtain ⟨c, hc⟩ : ∃ c, Hid (apD M a b = c) := ⟨_, rfl⟩
  obtain ⟨d, hd⟩ : ∃ d, Hid (apD M b a = d) := ⟨_, rfl⟩
  obtain ⟨p1, hp1⟩ : ∃ p, Hid ((M.ap a b).isSome = p) := ⟨_, rfl⟩
  obtain ⟨p2, hp2⟩ : ∃ p, Hid ((M.ap b a).isSome = p) := ⟨_, rfl⟩
  have HCD : Hid (i64ok c ∧ i64ok d) := ⟨by rw [← hc.out]; exact apD_ok hsd hl' a b, by rw [← hd.out]; exact apD_ok hsd hl' b a⟩
  have HTR : Hid (∀ W n M' F, MB W0 W mb n M' F → M'.ap = M.ap → M'.P = M.P → Sound M' → Calls Tryz.prog 18 #[.pointer (some ⟨mb, 0, none⟩)] W fun r w' => ∃ ad cap, r = .returned (.slice ad L.length cap) ∧ Hid (KCells encT w' ad L ∧ (∀ g, ad = some g → W.heap.size < g.block ∧ g.block < w'.heap.size) ∧ MB W0 w' mb n M' F ∧ Below W.heap.size W w')) := fun W n M' F hm h1 h2 h3 => by
    have := tris_mb hm h3 (by rw [h2]; exact hl')
    rw [h1, h2, hL.out] at this
    refine this.mono ?_
    rintro r w' ⟨ad, cap, rfl, k1, k2, k3, k4⟩
    exact ⟨ad, cap, rfl, k1, k2, k3, k4⟩
  have HSM : Hid (∀ W ad ca bd cb, KCells encT W ad L → KCells encT W bd L → Calls Tryz.prog 21 #[.slice ad L.length ca, .slice bd L.length cb] W fun r w' => r = .returned (.bool true) ∧ Below W.heap.size W w') := fun W ad ca bd cb h1 h2 => sameTris_walk L ad bd ca cb W h1 h2 HLB.out
  have HA1 : Hid (∀ W, MB W0 W mb n M F → Calls Tryz.prog 19 #[.pointer (some ⟨mb, 0, none⟩), .int .i64 a, .int .i64 b] W fun r w' => r = .returned (.tuple #[.int .i64 c, .bool p1]) ∧ w' = W) := fun W hm => by rw [← hc.out, ← hp1.out]; exact apex_mb hm HAB.out.1 HAB.out.2
  have HA2 : Hid (∀ W, MB W0 W mb n M F → Calls Tryz.prog 19 #[.pointer (some ⟨mb, 0, none⟩), .int .i64 b, .int .i64 a] W fun r w' => r = .returned (.tuple #[.int .i64 d, .bool p2]) ∧ w' = W) := fun W hm => by rw [← hd.out, ← hp2.out]; exact apex_mb hm HAB.out.2 HAB.out.1
  have HM := Lib.hid hm
  have HSD := Lib.hid hsd
  have HPL : Hid (M.P.length ≤ 1048576) := hl'
  have HN := Lib.hid hn
  have HTB : Hid (shB M a b = true → mayB M a b = true → ((turnR M a b).ap c d).isSome = true ∧ ((turnR M a b).ap d c).isSome = true ∧ ((turnR M a b).ap a b).isSome = false ∧ ((turnR M a b).ap b a).isSome = false ∧
      shB (turnR M a b) c d = true ∧ (((turnR M a b).fx (minI c d) (maxI c d)).isSome = false → mayB (turnR M a b) c d = true) ∧ (turnR (turnR M a b) c d).ap = M.ap) := fun h1 h2 => by
    have := turn_back hsd h1 h2
    rw [hc.out, hd.out] at this
    exact this
  have H64' := Lib.hid h64'
  clear hm hsd hP hn hl' hbW HX h64'
  by_cases h1 : shB M a b = true
  · by_cases h2 : mayB M a b = true
    · have HTU : Hid (∀ W, MB W0 W mb n M F → Calls Tryz.prog 20 #[.pointer (some ⟨mb, 0, none⟩), .int .i64 a, .int .i64 b] W fun r w' => r = .returned (.int .i64 0) ∧ ∃ G, MB W0 w' mb (n + 12) (turnR M a b) G ∧ Stay F W w' ∧ ∀ i, G i → F i ∨ W.heap.size ≤ i) := fun W hm => turn_ok hm H64'.out HSD.out HPL.out (by have := HN.out; omega) HAB.out.1 HAB.out.2 h1 h2
      have tb := HTB.out h1 h2
      have HSN : Hid (Sound (turnR M a b)) := turnR_sound HSD.out a b
      have HPN : Hid ((turnR M a b).P = M.P) := turnR_P M a b
      clear HTB
      generalize turnR M a b = N at *
      obtain ⟨t1, t2, t3, t4, t5, t6, t7⟩ := tb
      have HN64 : Hid (∀ p, p ∈ N.P → pt64 p) := by rw [HPN.out]; exact H64'
      have HNL : Hid (N.P.length ≤ 1048576) := by rw [HPN.out]; exact HPL
      obtain ⟨e1, he1⟩ : ∃ e, Hid ((N.ap c d).getD 0 = e) := ⟨_, rfl⟩
      obtain ⟨e2, he2⟩ : ∃ e, Hid ((N.ap d c).getD 0 = e) := ⟨_, rfl⟩
      obtain ⟨e3, he3⟩ : ∃ e, Hid ((N.ap a b).getD 0 = e) := ⟨_, rfl⟩
      obtain ⟨e4, he4⟩ : ∃ e, Hid ((N.ap b a).getD 0 = e) := ⟨_, rfl⟩
      obtain ⟨fv, hfv⟩ : ∃ e, Hid ((N.fx (minI c d) (maxI c d)).getD 0 = e) := ⟨_, rfl⟩
      obtain ⟨q, hq⟩ : ∃ q, Hid ((N.fx (minI c d) (maxI c d)).isSome = q) := ⟨_, rfl⟩
      have HB1 : Hid (∀ W G, MB W0 W mb (n + 12) N G → Calls Tryz.prog 19 #[.pointer (some ⟨mb, 0, none⟩), .int .i64 c, .int .i64 d] W fun r w' => r = .returned (.tuple #[.int .i64 e1, .bool true]) ∧ w' = W) := fun W G hm => by rw [← he1.out, ← t1]; exact apex_mb hm HCD.out.1 HCD.out.2
      have HB2 : Hid (∀ W G, MB W0 W mb (n + 12) N G → Calls Tryz.prog 19 #[.pointer (some ⟨mb, 0, none⟩), .int .i64 d, .int .i64 c] W fun r w' => r = .returned (.tuple #[.int .i64 e2, .bool true]) ∧ w' = W) := fun W G hm => by rw [← he2.out, ← t2]; exact apex_mb hm HCD.out.2 HCD.out.1
      have HB3 : Hid (∀ W G, MB W0 W mb (n + 12) N G → Calls Tryz.prog 19 #[.pointer (some ⟨mb, 0, none⟩), .int .i64 a, .int .i64 b] W fun r w' => r = .returned (.tuple #[.int .i64 e3, .bool false]) ∧ w' = W) := fun W G hm => by rw [← he3.out, ← t3]; exact apex_mb hm HAB.out.1 HAB.out.2
      have HB4 : Hid (∀ W G, MB W0 W mb (n + 12) N G → Calls Tryz.prog 19 #[.pointer (some ⟨mb, 0, none⟩), .int .i64 b, .int .i64 a] W fun r w' => r = .returned (.tuple #[.int .i64 e4, .bool false]) ∧ w' = W) := fun W G hm => by rw [← he4.out, ← t4]; exact apex_mb hm HAB.out.2 HAB.out.1
      have HFX : Hid (∀ W G, MB W0 W mb (n + 12) N G → Calls Tryz.prog 22 #[.pointer (some ⟨mb, 0, none⟩), .int .i64 c, .int .i64 d] W fun r w' => r = .returned (.tuple #[.int .i64 fv, .bool q]) ∧ Below W.heap.size W w') := fun W G hm => by rw [← hfv.out, ← hq.out]; exact fixed_walk hm.at_ HCD.out.1 HCD.out.2
      have HT2 : Hid (q = false → ∀ W G, MB W0 W mb (n + 12) N G → Calls Tryz.prog 20 #[.pointer (some ⟨mb, 0, none⟩), .int .i64 c, .int .i64 d] W fun r w' => r = .returned (.int .i64 0) ∧ ∃ G2, MB W0 w' mb (n + 12 + 12) (turnR N c d) G2 ∧ Stay G W w' ∧ ∀ i, G2 i → G i ∨ W.heap.size ≤ i) := fun e W G hm => turn_ok hm HN64.out HSN.out HNL.out (by have := HN.out; omega) HCD.out.1 HCD.out.2 t5 (t6 (by rw [hq.out, e]))
      have HAP2 : Hid ((turnR N c d).ap = M.ap ∧ (turnR N c d).P = M.P ∧ Sound (turnR N c d)) := ⟨t7, (turnR_P N c d).trans HPN.out, turnR_sound HSN.out c d⟩
      have HST : Hid (∀ (W4 W7 : World) (ad4 : Option Addr) (G : Nat → Prop), KCells encT W4 ad4 L → (∀ g, ad4 = some g → w3.heap.size < g.block ∧ g.block < W4.heap.size) → Stay F W4 W7 → (∀ i, G i → F i ∨ W4.heap.size ≤ i) → KCells encT W7 ad4 L ∧ ∀ g, ad4 = some g → ¬G g.block ∧ g.block < W7.heap.size) := fun W4 W7 ad4 G k1 k2 k3 k4 => by
        refine ⟨k1.stay k3 (fun g e hF => ?_), fun g e => ⟨fun hG => ?_, Nat.lt_of_lt_of_le (k2 g e).2 k3.size⟩⟩
        · have := (k2 g e).1; have := HM.out.at_.flt _ hF; omega
        · rcases k4 _ hG with hF | hG
          · have := (k2 g e).1; have := HM.out.at_.flt _ hF; omega
          · have := (k2 g e).2; omega
      clear t1 t2 t3 t4 t5 t6 t7 h1 h2
      cases q
      · have HT3 := Lib.hid (HT2.out rfl)
        clear HT2
        go_wp2_with (first
          | (go_at_call 18; (with_reducible refine (HTR.out _ _ _ _ HM.out rfl rfl HSD.out).mono ?_); rintro r w4 ⟨ad4, cap4, rfl, HT4⟩)
          | (go_at_call 19; (with_reducible refine (HA1.out _ HT4.out.2.2.1).mono ?_); rintro r w5 ⟨rfl, hw5⟩; obtain rfl := hw5.symm)
          | (go_at_call 19; (with_reducible refine (HA2.out _ HT4.out.2.2.1).mono ?_); rintro r w6 ⟨rfl, hw6⟩; obtain rfl := hw6.symm)
          | (go_at_call 20; (with_reducible refine (HTU.out _ HT4.out.2.2.1).mono ?_); rintro r w7 ⟨rfl, G, hm7, hst7, hG7⟩; have HM7 := Lib.hid hm7; have HK7 := Lib.hid (HST.out _ _ _ _ HT4.out.1 HT4.out.2.1 hst7 hG7))
          | (go_at_call 19; (with_reducible refine (HB1.out _ _ HM7.out).mono ?_); rintro r w8 ⟨rfl, hw8⟩; obtain rfl := hw8.symm)
          | (go_at_call 19; (with_reducible refine (HB2.out _ _ HM7.out).mono ?_); rintro r w8 ⟨rfl, hw8⟩; obtain rfl := hw8.symm)
          | (go_at_call 19; (with_reducible refine (HB3.out _ _ HM7.out).mono ?_); rintro r w8 ⟨rfl, hw8⟩; obtain rfl := hw8.symm)
          | (go_at_call 19; (with_reducible refine (HB4.out _ _ HM7.out).mono ?_); rintro r w8 ⟨rfl, hw8⟩; obtain rfl := hw8.symm)
          | (go_at_call 22; (with_reducible refine (HFX.out _ _ HM7.out).mono ?_); rintro r w9 ⟨rfl, hb9⟩; have HM9 := Lib.hid (HM7.out.below hb9); have HB9 := Lib.hid hb9)
          | (go_at_call 20; (with_reducible refine (HT3.out _ _ HM9.out).mono ?_); rintro r w10 ⟨rfl, G2, hm10, hst10, hG10⟩; have HM10 := Lib.hid hm10; have HK10 := Lib.hid ((HK7.out.1.below HB9.out).stay hst10 (fun g e => (HK7.out.2 g e).1)))
          | (go_at_call 18; (with_reducible refine (HTR.out _ _ _ _ HM10.out HAP2.out.1 HAP2.out.2.1 HAP2.out.2.2).mono ?_); rintro r w11 ⟨ad11, cap11, rfl, HT11⟩; have HK11 := Lib.hid (HK10.out.below HT11.out.2.2.2))
          | (go_at_call 21; (with_reducible refine (HSM.out _ _ _ _ _ HT11.out.1 HK11.out).mono ?_); rintro r w12 ⟨rfl, hb12⟩; have HM12 := Lib.hid (HT11.out.2.2.1.below hb12)))
        go_ret
        exact ⟨rfl, HFIN.out _ _ _ _ HM12.out⟩
      · go_wp2_with (first
          | (go_at_call 18; (with_reducible refine (HTR.out _ _ _ _ HM.out rfl rfl HSD.out).mono ?_); rintro r w4 ⟨ad4, cap4, rfl, HT4⟩)
          | (go_at_call 19; (with_reducible refine (HA1.out _ HT4.out.2.2.1).mono ?_); rintro r w5 ⟨rfl, hw5⟩; obtain rfl := hw5.symm)
          | (go_at_call 19; (with_reducible refine (HA2.out _ HT4.out.2.2.1).mono ?_); rintro r w6 ⟨rfl, hw6⟩; obtain rfl := hw6.symm)
          | (go_at_call 20; (with_reducible refine (HTU.out _ HT4.out.2.2.1).mono ?_); rintro r w7 ⟨rfl, G, hm7, hst7, hG7⟩; have HM7 := Lib.hid hm7; have HK7 := Lib.hid (HST.out _ _ _ _ HT4.out.1 HT4.out.2.1 hst7 hG7))
          | (go_at_call 19; (with_reducible refine (HB1.out _ _ HM7.out).mono ?_); rintro r w8 ⟨rfl, hw8⟩; obtain rfl := hw8.symm)
          | (go_at_call 19; (with_reducible refine (HB2.out _ _ HM7.out).mono ?_); rintro r w8 ⟨rfl, hw8⟩; obtain rfl := hw8.symm)
          | (go_at_call 19; (with_reducible refine (HB3.out _ _ HM7.out).mono ?_); rintro r w8 ⟨rfl, hw8⟩; obtain rfl := hw8.symm)
          | (go_at_call 19; (with_reducible refine (HB4.out _ _ HM7.out).mono ?_); rintro r w8 ⟨rfl, hw8⟩; obtain rfl := hw8.symm)
          | (go_at_call 22; (with_reducible refine (HFX.out _ _ HM7.out).mono ?_); rintro r w9 ⟨rfl, hb9⟩; have HM9 := Lib.hid (HM7.out.below hb9); have HB9 := Lib.hid hb9))
        go_ret
        exact ⟨rfl, HFIN.out _ _ _ _ HM9.out⟩
    · have HTU : Hid (∀ W, MB W0 W mb n M F → Calls Tryz.prog 20 #[.pointer (some ⟨mb, 0, none⟩), .int .i64 a, .int .i64 b] W fun r w' => r = .returned (.int .i64 14) ∧ Below W.heap.size W w') := fun W hm => turn_no hm.at_ H64'.out HSD.out HPL.out HAB.out.1 HAB.out.2 h1 (by simpa using h2)
      clear HTB
      go_wp2_with (first
        | (go_at_call 18; (with_reducible refine (HTR.out _ _ _ _ HM.out rfl rfl HSD.out).mono ?_); rintro r w4 ⟨ad4, cap4, rfl, HT4⟩)
        | (go_at_call 19; (with_reducible refine (HA1.out _ HT4.out.2.2.1).mono ?_); rintro r w5 ⟨rfl, hw5⟩; obtain rfl := hw5.symm)
        | (go_at_call 19; (with_reducible refine (HA2.out _ HT4.out.2.2.1).mono ?_); rintro r w6 ⟨rfl, hw6⟩; obtain rfl := hw6.symm)
        | (go_at_call 20; (with_reducible refine (HTU.out _ HT4.out.2.2.1).mono ?_); rintro r w7 ⟨rfl, hb7⟩; have HM7 := Lib.hid (HT4.out.2.2.1.below hb7); have HK7 := Lib.hid (HT4.out.1.below hb7))
        | (go_at_call 18; (with_reducible refine (HTR.out _ _ _ _ HM7.out rfl rfl HSD.out).mono ?_); rintro r w8 ⟨ad8, cap8, rfl, HT8⟩; have HK8 := Lib.hid (HK7.out.below HT8.out.2.2.2))
        | (go_at_call 21; (with_reducible refine (HSM.out _ _ _ _ _ HT8.out.1 HK8.out).mono ?_); rintro r w9 ⟨rfl, hb9⟩; have HM9 := Lib.hid (HT8.out.2.2.1.below hb9)))
      go_ret
      exact ⟨rfl, HFIN.out _ _ _ _ HM9.out⟩
  · have HTU : Hid (∀ W, MB W0 W mb n M F → Calls Tryz.prog 20 #[.pointer (some ⟨mb, 0, none⟩), .int .i64 a, .int .i64 b] W fun r w' => r = .returned (.int .i64 5) ∧ Below W.heap.size W w') := fun W hm => turn_none hm.at_ HAB.out.1 HAB.out.2 (by simpa using h1)
    clear HTB
    go_wp2_with (first
      | (go_at_call 18; (with_reducible refine (HTR.out _ _ _ _ HM.out rfl rfl HSD.out).mono ?_); rintro r w4 ⟨ad4, cap4, rfl, HT4⟩)
      | (go_at_call 19; (with_reducible refine (HA1.out _ HT4.out.2.2.1).mono ?_); rintro r w5 ⟨rfl, hw5⟩; obtain rfl := hw5.symm)
      | (go_at_call 19; (with_reducible refine (HA2.out _ HT4.out.2.2.1).mono ?_); rintro r w6 ⟨rfl, hw6⟩; obtain rfl := hw6.symm)
      | (go_at_call 20; (with_reducible refine (HTU.out _ HT4.out.2.2.1).mono ?_); rintro r w7 ⟨rfl, hb7⟩; have HM7 := Lib.hid (HT4.out.2.2.1.below hb7); have HK7 := Lib.hid (HT4.out.1.below hb7))
      | (go_at_call 18; (with_reducible refine (HTR.out _ _ _ _ HM7.out rfl rfl HSD.out).mono ?_); rintro r w8 ⟨ad8, cap8, rfl, HT8⟩; have HK8 := Lib.hid (HK7.out.below HT8.out.2.2.2))
      | (go_at_call 21; (with_reducible refine (HSM.out _ _ _ _ _ HT8.out.1 HK8.out).mono ?_); rintro r w9 ⟨rfl, hb9⟩; have HM9 := Lib.hid (HT8.out.2.2.1.below hb9)))
    go_ret
    exact ⟨rfl, HFIN.out _ _ _ _ HM9.out⟩

end Go.Proofs.YtdoaniccefdkaaaGreatDoor
