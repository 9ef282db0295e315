/- trivetlaw16.may; WalkFinds: the walk. -/
import Derived.Test.YtdoaniccefdkaaaGreatDoorQR9
import Derived.Test.YtdoaniccefdkaaaGreatDoorZY
set_option linter.all false
namespace Go.Proofs.YtdoaniccefdkaaaGreatDoor
open Go.RowKit Tvf Go.Maps Go.WideMaps

theorem allCode_one (p : Pt) : allCode [p] = if ptOK p = true then 0 else 10 := by
  unfold allCode
  simp only [List.length_singleton, List.all_cons, List.all_nil, Bool.and_true]
  rw [if_neg (by omega)]

theorem pcells_one {w : World} {g : Nat} {p : Pt} (h0 : w.cell? ⟨g, 0, none⟩ = some (.float .f64 p.1)) (h1 : w.cell? ⟨g, 1, none⟩ = some (.float .f64 p.2)) : PCells w (some ⟨g, 0, none⟩) [p] := by
  intro _
  refine ⟨g, 0, rfl, World.block_lt_of_cell? _ _ h0, fun i hi => ?_⟩
  have e : i = 0 := by simpa using hi
  subst e
  exact ⟨h0, h1⟩

set_option maxRecDepth 100000 in
set_option maxHeartbeats 2000000 in
theorem may16 {p : Pt} (hp : pt64 p) (w : World) :
    Calls Tryz.prog 53 #[.agg #[.float .f64 p.1, .float .f64 p.2]] w fun r w' => r = .returned (.bool (ptOK p)) ∧ Below w.heap.size w w' := by
  have H1 : Hid (ptOK p = true → ∀ W g, PCells W (some ⟨g, 0, none⟩) [p] → Calls Tryz.prog 27 #[.slice (some ⟨g, 0, none⟩) 1 1] W fun r w' => ∃ mb, r = .returned (.tuple #[.pointer (some ⟨mb, 0, none⟩), .int .i64 0]) ∧ Below W.heap.size W w') := fun hk W g hc => by
    refine (new_mb [p] (some ⟨g, 0, none⟩) 1 (fun q hq => by rw [List.mem_singleton] at hq; rw [hq]; exact hp) (by rw [allCode_one, if_pos hk]) (by simp) W W (Below.refl _ _) hc).mono ?_
    rintro r w' ⟨mb, F, rfl, _, hb, _⟩
    exact ⟨mb, rfl, hb⟩
  have H2 : Hid (ptOK p = false → ∀ W g, PCells W (some ⟨g, 0, none⟩) [p] → Calls Tryz.prog 27 #[.slice (some ⟨g, 0, none⟩) 1 1] W fun r w' => r = .returned (.tuple #[.pointer none, .int .i64 10]) ∧ Below W.heap.size W w') := fun hk W g hc => by
    have e : allCode [p] = 10 := by rw [allCode_one, if_neg (by rw [hk]; simp)]
    have := new_bad [p] (some ⟨g, 0, none⟩) 1 (fun q hq => by rw [List.mem_singleton] at hq; rw [hq]; exact hp) (by rw [e]; omega) W hc
    rw [e] at this
    exact this
  obtain ⟨W1, hW1⟩ : ∃ W1 : World, W1 = (w.alloc (.cells #[.float .f64 p.1, .float .f64 p.2] 52)).alloc (.cells #[.float .f64 p.1, .float .f64 p.2] 52) := ⟨_, rfl⟩
  have HPC : Hid (PCells W1 (some ⟨w.heap.size + 1, 0, none⟩) [p]) := by
    have h2 := new2 (w.alloc (.cells #[.float .f64 p.1, .float .f64 p.2] 52)) (.float .f64 p.1) (.float .f64 p.2) 52
    have e1 : (w.alloc (.cells #[.float .f64 p.1, .float .f64 p.2] 52)).heap.size = w.heap.size + 1 := by simp
    rw [e1] at h2
    rw [hW1]
    exact pcells_one h2.1 h2.2
  have HB1 : Hid (Below w.heap.size w W1) := by rw [hW1]; exact ((Below.refl _ _).alloc (Nat.le_refl _) _).alloc (by simp) _
  have HWW := Lib.hid hW1
  clear hW1 hp
  cases hk : ptOK p
  · have H := Lib.hid (H2.out hk W1 _ HPC.out)
    clear H1 H2 hk
    go_enter Tryz.func53, Tryz.ntmps53
    go_wp2_with (rw [← HWW.out]; go_at_call 27; (with_reducible refine H.out.mono ?_); rintro r w1 ⟨rfl, hb1⟩)
    go_ret
    exact ⟨rfl, bseq HB1.out hb1⟩
  · have H := Lib.hid (H1.out hk W1 _ HPC.out)
    clear H1 H2 hk
    go_enter Tryz.func53, Tryz.ntmps53
    go_wp2_with (rw [← HWW.out]; go_at_call 27; (with_reducible refine H.out.mono ?_); rintro r w1 ⟨mb, rfl, hb1⟩)
    go_ret
    exact ⟨rfl, bseq HB1.out hb1⟩

set_option maxRecDepth 100000 in
set_option maxHeartbeats 1000000 in
theorem finds_big (l : List Pt) (ad : Option Addr) (cap : Nat) (T : List Tri3) (at_ : Option Addr) (capt : Nat) (p : Pt) (v : Value) (hb : 40 < l.length ∨ 100 < T.length) (w : World) :
    Calls Tryz.prog 9 #[.slice ad l.length cap, .slice at_ T.length capt, V p, v] w fun r w' => r = .returned (.bool true) ∧ Below w.heap.size w w' := by
  have HW := Lib.hid awake16_walk
  have HB0 : Hid (Below w.heap.size w (w.alloc (.cells #[.float .f64 p.1, .float .f64 p.2] 52))) := (Below.refl _ w).alloc (Nat.le_refl _) _
  unfold V
  by_cases h1 : 40 < l.length
  · have h1z : (40 : Int) < l.length := by omega
    clear hb
    go_enter Tryz.func9, Tryz.ntmps9
    go_wp2_with (go_at_call 49; with_reducible refine (HW.out _).mono ?_; rintro r w1 ⟨rfl, hb1⟩)
    go_ret
    exact ⟨rfl, bseq HB0.out hb1⟩
  · have h2 : 100 < T.length := hb.resolve_left h1
    have h1z : ¬(40 : Int) < l.length := by omega
    have h2z : (100 : Int) < T.length := by omega
    clear hb
    go_enter Tryz.func9, Tryz.ntmps9
    go_wp2_with (go_at_call 49; with_reducible refine (HW.out _).mono ?_; rintro r w1 ⟨rfl, hb1⟩)
    go_ret
    exact ⟨rfl, bseq HB0.out hb1⟩

set_option maxRecDepth 100000 in
set_option maxHeartbeats 1000000 in
theorem finds_nil (l : List Pt) (ad : Option Addr) (cap : Nat) (T : List Tri3) (at_ : Option Addr) (capt : Nat) (p : Pt) (v : Value) (h1 : l.length ≤ 40) (h2 : T.length ≤ 100) (h64 : ∀ p, p ∈ l → pt64 p) (hk : allCode l ≠ 0) (w : World) (hc : PCells w ad l) :
    Calls Tryz.prog 9 #[.slice ad l.length cap, .slice at_ T.length capt, V p, v] w fun r w' => r = .returned (.bool true) ∧ Below w.heap.size w w' := by
  have HW := Lib.hid awake16_walk
  have HB0 : Hid (Below w.heap.size w (w.alloc (.cells #[.float .f64 p.1, .float .f64 p.2] 52))) := (Below.refl _ w).alloc (Nat.le_refl _) _
  have HN := Lib.hid (fun W (hb : Below w.heap.size w W) => made16_nil l ad cap (.slice at_ T.length capt) h64 hk W (hc.below hb))
  have h1z : ¬(40 : Int) < l.length := by omega
  have h2z : ¬(100 : Int) < T.length := by omega
  unfold V
  clear h64 hk hc
  go_enter Tryz.func9, Tryz.ntmps9
  go_wp2_with (first
    | (go_at_call 50; with_reducible refine (HN.out _ HB0.out).mono ?_; rintro r w1 ⟨rfl, hb1⟩; have B1 := Lib.hid (bseq HB0.out hb1))
    | (go_at_call 49; with_reducible refine (HW.out _).mono ?_; rintro r w2 ⟨rfl, hb2⟩; have B2 := Lib.hid (bseq B1.out hb2)))
  go_ret
  exact ⟨rfl, B2.out⟩

set_option maxRecDepth 100000 in
set_option maxHeartbeats 8000000 in
theorem finds_ok (l : List Pt) (ad : Option Addr) (cap : Nat) (T : List Tri3) (at_ : Option Addr) (capt : Nat) (p : Pt) (s : Nat) (hs : s < 18446744073709551616) (h1 : l.length ≤ 40) (h2 : T.length ≤ 100) (h64 : ∀ p, p ∈ l → pt64 p) (hk : allCode l = 0) (hp : pt64 p) (hpk : ptOK p = true) (w : World) (hc : PCells w ad l) (hct : TCells w at_ T) :
    Calls Tryz.prog 9 #[.slice ad l.length cap, .slice at_ T.length capt, V p, .int .u64 s] w fun r w' => r = .returned (.bool true) ∧ Below w.heap.size w w' := by
  have HW := Lib.hid awake16_walk
  obtain ⟨W0, hW0⟩ : ∃ W0 : World, W0 = w.alloc (.cells #[.float .f64 p.1, .float .f64 p.2] 52) := ⟨_, rfl⟩
  have HB0 : Hid (Below w.heap.size w W0) := by rw [hW0]; exact (Below.refl _ w).alloc (Nat.le_refl _) _
  have HPB : Hid (∀ W, Below W0.heap.size W0 W → W.cell? ⟨w.heap.size, 0, none⟩ = some (.float .f64 p.1) ∧ W.cell? ⟨w.heap.size, 1, none⟩ = some (.float .f64 p.2)) := fun W hb => by
    have h2 := new2 w (.float .f64 p.1) (.float .f64 p.2) 52
    rw [hW0] at hb
    exact ⟨cell_keep h2.1 hb, cell_keep h2.2 hb⟩
  have HWW := Lib.hid hW0
  have HMD := Lib.hid (made16_ok l ad cap T at_ capt h64 hk (by omega) (by omega) W0 (hc.below HB0.out) (hct.below HB0.out))
  have HPO : Hid (PtO p) := ⟨hp, hpk⟩
  have HOK : Hid (∀ q, q ∈ l → PtO q) := fun q hq => ⟨h64 q hq, by
    unfold allCode at hk
    split at hk
    · cases hk
    · split at hk
      · rename_i h; exact List.all_eq_true.1 h q hq
      · cases hk⟩
  have HTW : Hid (Twin (foldM (emptyM l) T) (goodL (emptyM l) T)) := by have := twin_good T (Twin.empty l); rwa [List.nil_append] at this
  have HPM : Hid ((foldM (emptyM l) T).P = l) := by unfold Hid; rw [foldM_P]; rfl
  have HGL : Hid ((goodL (emptyM l) T).length ≤ 100) := Nat.le_trans (goodL_len T (emptyM l)) h2
  generalize foldM (emptyM l) T = M at *
  generalize goodL (emptyM l) T = G at *
  have HFD : Hid (Fnd M G l p) := ⟨HTW.out, HPM.out, HOK.out, HPO.out⟩
  have HFX := Lib.hid (HFD.out.finds s)
  have HFI : Hid (∀ W W' mb n F, MB W W' mb n M F → ∀ W2, Below W'.heap.size W' W2 → Calls Tryz.prog 51 #[.pointer (some ⟨mb, 0, none⟩), .agg #[.float .f64 p.1, .float .f64 p.2], .int .u64 s] W2 fun r w' => r = .returned (.tuple #[.agg #[.int .u8 (findM M p s).k, .int .i64 (findM M p s).a, .int .i64 (findM M p s).b, .int .i64 (findM M p s).c], .int .i64 0]) ∧ Below W2.heap.size W2 w') := fun W W' mb n F hm W2 hb => find_main (hm.below hb).at_ (by rw [HPM.out]; exact h64) HTW.out.s (by rw [HPM.out]; omega) p hp hpk s hs
  have HFB : Hid (∀ W mb, Calls Tryz.prog 51 #[.pointer (some ⟨mb, 0, none⟩), .agg #[.float .f64 5062045981164437504, .float .f64 0], .int .u64 s] W fun r w' => r = .returned (.tuple #[.agg #[.int .u8 0, .int .i64 0, .int .i64 0, .int .i64 0], .int .i64 10]) ∧ Below W.heap.size W w') := fun W mb => find_bad (5062045981164437504, 0) (by unfold pt64; decide) (by decide +kernel) (.int .u64 s)
  have HMY : Hid (∀ W, Calls Tryz.prog 53 #[.agg #[.float .f64 p.1, .float .f64 p.2]] W fun r w' => r = .returned (.bool true) ∧ Below W.heap.size W w') := fun W => by have := may16 hp W; rw [hpk] at this; exact this
  have HPL : Hid ((plL l G p).length ≤ 10000) := by
    have := plK_len l G p G.length 0 (by omega)
    rw [plK_all] at this
    have := HGL.out
    unfold Hid; omega
  have HRG : Hid (∀ t, t ∈ G → ∀ k, k < 3 → 0 ≤ tvT t k ∧ tvT t k < l.length) := fun t ht k hk => by
    have h3 := HTW.out.s.within3 (HFD.out.fwd ht).1
    rw [HPM.out] at h3
    have h4 : k = 0 ∨ k = 1 ∨ k = 2 := by omega
    rcases h4 with rfl | rfl | rfl
    · exact h3.1
    · exact h3.2.1
    · exact h3.2.2
  have HHS : Hid (∀ W at2 ct2, Below w.heap.size w W → KCells encT W at2 G → Calls Tryz.prog 52 #[.slice ad l.length cap, .slice at2 G.length ct2, .agg #[.float .f64 p.1, .float .f64 p.2], .agg #[.int .u8 (findM M p s).k, .int .i64 (findM M p s).a, .int .i64 (findM M p s).b, .int .i64 (findM M p s).c]] W fun r w' => r = .returned (.bool true) ∧ Below W.heap.size W w') := fun W at2 ct2 hb hk => has16 (fun W2 hb2 => places16 ((hc.below hb).below hb2) (hk.below hb2) HOK.out HPO.out HRG.out HTW.out.ne (by omega) (by have := HGL.out; omega)) (findM M p s) HFX.out HPL.out
  have h1z : ¬(40 : Int) < l.length := by omega
  have h2z : ¬(100 : Int) < T.length := by omega
  clear h64 hk hc hct hp hpk h1 h2 hs hW0 HFX HFD HTW HPM HPO HOK HRG HGL HPL
  generalize (findM M p s).k = z0 at *
  generalize (findM M p s).a = z1 at *
  generalize (findM M p s).b = z2 at *
  generalize (findM M p s).c = z3 at *
  unfold V
  obtain ⟨t0, t1⟩ := HPB.out _ (Below.refl _ _)
  go_enter Tryz.func9, Tryz.ntmps9
  go_upto_region 1 with fail
  rw [← HWW.out]
  go_wp2_with (first
    | (go_at_call 50; (with_reducible refine HMD.out.mono ?_); rintro r w1 ⟨mb, F, a1, c1, rfl, hm1, hk1, _⟩; have HM1 := Lib.hid hm1; have HK1 := Lib.hid hk1; have C1 := Lib.hid hm1.keep; have B1 := Lib.hid (bseq HB0.out hm1.keep); clear hm1 hk1 t0 t1; obtain ⟨t0, t1⟩ := HPB.out _ C1.out)
    | (go_at_call 51; (with_reducible refine (HFI.out _ _ _ _ _ HM1.out _ (Below.refl _ _)).mono ?_); rintro r w2 ⟨rfl, hb2⟩; have D2 := Lib.hid (hb2.alloc hb2.size (.cells #[.int .u8 z0, .int .i64 z1, .int .i64 z2, .int .i64 z3] 87)); have X2 := Lib.hid (BoxN.new w2 #[.int .u8 z0, .int .i64 z1, .int .i64 z2, .int .i64 z3] 87); have C2 := Lib.hid (bseq C1.out D2.out); clear t0 t1 hb2; obtain ⟨t0, t1⟩ := HPB.out _ C2.out)
    | (go_at_call 51; (with_reducible refine (HFB.out _ _).mono ?_); rintro r w3 ⟨rfl, hb3⟩; have D3 := Lib.hid (hb3.alloc hb3.size (.cells #[.int .u8 0, .int .i64 0, .int .i64 0, .int .i64 0] 87)); have C3 := Lib.hid (bseq C2.out D3.out); have X3 := Lib.hid (X2.out.below D3.out); have K3 := Lib.hid (bseq D2.out D3.out); clear t0 t1 hb3; obtain ⟨t0, t1⟩ := HPB.out _ C3.out)
    | (go_at_call 53; (with_reducible refine (HMY.out _).mono ?_); rintro r w4 ⟨rfl, hb4⟩; have C4 := Lib.hid (bseq C3.out hb4); have K4 := Lib.hid (bseq K3.out hb4); have X4 := Lib.hid (X3.out.below hb4); clear t0 t1 hb4; obtain ⟨t0, t1⟩ := HPB.out _ C4.out; obtain ⟨x0, x1, x2, x3⟩ := X4.out.c4)
    | (go_at_call 52; (with_reducible refine (HHS.out _ _ _ (bseq HB0.out C4.out) (HK1.out.below K4.out)).mono ?_); rintro r w5 ⟨rfl, hb5⟩; have C5 := Lib.hid (bseq C4.out hb5))
    | (go_at_call 49; (with_reducible refine (HW.out _).mono ?_); rintro r w6 ⟨rfl, hb6⟩; have C6 := Lib.hid (bseq C5.out hb6)))
  go_ret
  exact ⟨rfl, bseq HB0.out C6.out⟩

set_option maxRecDepth 100000 in
set_option maxHeartbeats 2000000 in
theorem places_nil (p : Pt) (w : World) :
    Calls Tryz.prog 56 #[.slice none 0 0, .slice none 0 0, .agg #[.float .f64 p.1, .float .f64 p.2]] w fun r w' => ∃ v, r = .returned v ∧ Hid (LR w w' v []) := by
  have HB0 : Hid (Below w.heap.size w (w.alloc (.cells #[.float .f64 p.1, .float .f64 p.2] 52))) := (Below.refl _ w).alloc (Nat.le_refl _) _
  have HCO : Hid (∀ W, Calls Tryz.prog 126 #[.slice none 0 0, .slice none 0 0] W fun r w' => ∃ g, r = .returned (.slice (some ⟨g, 0, none⟩) 0 0) ∧ Below W.heap.size W w') := fun W => by
    refine (corners16 (w := W) (n := 0) none 0 (G := []) (at_ := none) 0 (fun h => absurd h (by simp)) (fun t ht => absurd ht (by simp)) (by omega) (by simp)).mono ?_
    rintro r w' ⟨g, rfl, _, hb⟩
    exact ⟨g, rfl, hb⟩
  go_enter Tryz.func56, Tryz.ntmps56
  go_wp2_with (go_at_call 126; (with_reducible refine (HCO.out _).mono ?_); rintro r w1 ⟨g, rfl, hb1⟩; have B1 := Lib.hid (bseq HB0.out hb1))
  go_loopw [7, 9] (fun s7 s9 wr => s7 = .slice none 0 0 ∧ s9 = .int .i64 0 ∧ w1 = wr) (fun _ _ _ => 0)
  case atStart => exact ⟨rfl, rfl, rfl⟩
  case round =>
    obtain ⟨rfl, rfl, rfl⟩ := hrel
    go_wp2
    go_loopw [7, 10] (fun s7 s10 wx => s7 = .slice none 0 0 ∧ s10 = .int .i64 0 ∧ w1 = wx) (fun _ _ _ => 0)
    case atStart => exact ⟨rfl, rfl, rfl⟩
    case round =>
      obtain ⟨rfl, rfl, rfl⟩ := hrel
      go_wp2
      go_ret
      exact ⟨_, rfl, LR.nil B1.out⟩

set_option maxRecDepth 100000 in
set_option maxHeartbeats 8000000 in
theorem finds_bad (l : List Pt) (ad : Option Addr) (cap : Nat) (T : List Tri3) (at_ : Option Addr) (capt : Nat) (p : Pt) (s : Nat) (h1 : l.length ≤ 40) (h2 : T.length ≤ 100) (h64 : ∀ p, p ∈ l → pt64 p) (hk : allCode l = 0) (hp : pt64 p) (hpk : ptOK p = false) (w : World) (hc : PCells w ad l) (hct : TCells w at_ T) :
    Calls Tryz.prog 9 #[.slice ad l.length cap, .slice at_ T.length capt, V p, .int .u64 s] w fun r w' => r = .returned (.bool true) ∧ Below w.heap.size w w' := by
  have HW := Lib.hid awake16_walk
  obtain ⟨W0, hW0⟩ : ∃ W0 : World, W0 = w.alloc (.cells #[.float .f64 p.1, .float .f64 p.2] 52) := ⟨_, rfl⟩
  have HB0 : Hid (Below w.heap.size w W0) := by rw [hW0]; exact (Below.refl _ w).alloc (Nat.le_refl _) _
  have HPB : Hid (∀ W, Below W0.heap.size W0 W → W.cell? ⟨w.heap.size, 0, none⟩ = some (.float .f64 p.1) ∧ W.cell? ⟨w.heap.size, 1, none⟩ = some (.float .f64 p.2)) := fun W hb => by
    have h2 := new2 w (.float .f64 p.1) (.float .f64 p.2) 52
    rw [hW0] at hb
    exact ⟨cell_keep h2.1 hb, cell_keep h2.2 hb⟩
  have HWW := Lib.hid hW0
  have HMD := Lib.hid (made16_ok l ad cap T at_ capt h64 hk (by omega) (by omega) W0 (hc.below HB0.out) (hct.below HB0.out))
  have HFI : Hid (∀ W mb, Calls Tryz.prog 51 #[.pointer (some ⟨mb, 0, none⟩), .agg #[.float .f64 p.1, .float .f64 p.2], .int .u64 s] W fun r w' => r = .returned (.tuple #[.agg #[.int .u8 0, .int .i64 0, .int .i64 0, .int .i64 0], .int .i64 10]) ∧ Below W.heap.size W w') := fun W mb => find_bad p hp hpk (.int .u64 s)
  have HFB : Hid (∀ W mb, Calls Tryz.prog 51 #[.pointer (some ⟨mb, 0, none⟩), .agg #[.float .f64 5062045981164437504, .float .f64 0], .int .u64 s] W fun r w' => r = .returned (.tuple #[.agg #[.int .u8 0, .int .i64 0, .int .i64 0, .int .i64 0], .int .i64 10]) ∧ Below W.heap.size W w') := fun W mb => find_bad (5062045981164437504, 0) (by unfold pt64; decide) (by decide +kernel) (.int .u64 s)
  have HMY : Hid (∀ W, Calls Tryz.prog 53 #[.agg #[.float .f64 p.1, .float .f64 p.2]] W fun r w' => r = .returned (.bool false) ∧ Below W.heap.size W w') := fun W => by have := may16 hp W; rw [hpk] at this; exact this
  have HHS : Hid (∀ W, Calls Tryz.prog 52 #[.slice none 0 0, .slice none 0 0, .agg #[.float .f64 p.1, .float .f64 p.2], .agg #[.int .u8 4, .int .i64 0, .int .i64 0, .int .i64 0]] W fun r w' => r = .returned (.bool true) ∧ Below W.heap.size W w') := fun W => has16 (l := []) (G := []) (ap := none) (at_ := none) (cp := 0) (ct := 0) (L := []) (fun W2 _ => places_nil p W2) ⟨4, 0, 0, 0⟩ (.inl ⟨rfl, rfl⟩) (by simp)
  have h1z : ¬(40 : Int) < l.length := by omega
  have h2z : ¬(100 : Int) < T.length := by omega
  have q0 : ∀ W, (binOp .eql 87 (.agg #[.int .u8 0, .int .i64 0, .int .i64 0, .int .i64 0]) (.agg #[.int .u8 0, .int .i64 0, .int .i64 0, .int .i64 0])).run Tryz.prog W = .ok (.bool true) W := fun W => eqlWalk plc0 plc0 W
  clear h64 hk hc hct hp hpk h1 h2 hW0
  generalize (goodL (emptyM l) T) = G at *
  generalize foldM (emptyM l) T = M at *
  unfold V
  obtain ⟨t0, t1⟩ := HPB.out _ (Below.refl _ _)
  go_enter Tryz.func9, Tryz.ntmps9
  go_upto_region 1 with fail
  rw [← HWW.out]
  go_wp2_with (first
    | (go_at_call 50; (with_reducible refine HMD.out.mono ?_); rintro r w1 ⟨mb, F, a1, c1, rfl, hm1, hk1, _⟩; have C1 := Lib.hid hm1.keep; clear hm1 hk1 t0 t1; obtain ⟨t0, t1⟩ := HPB.out _ C1.out)
    | (go_at_call 51; (with_reducible refine (HFI.out _ _).mono ?_); rintro r w2 ⟨rfl, hb2⟩; have D2 := Lib.hid (hb2.alloc hb2.size (.cells #[.int .u8 0, .int .i64 0, .int .i64 0, .int .i64 0] 87)); have X2 := Lib.hid (BoxN.new w2 #[.int .u8 0, .int .i64 0, .int .i64 0, .int .i64 0] 87); have C2 := Lib.hid (bseq C1.out D2.out); clear t0 t1 hb2; obtain ⟨t0, t1⟩ := HPB.out _ C2.out)
    | (go_at_call 51; (with_reducible refine (HFB.out _ _).mono ?_); rintro r w3 ⟨rfl, hb3⟩; have D3 := Lib.hid (hb3.alloc hb3.size (.cells #[.int .u8 0, .int .i64 0, .int .i64 0, .int .i64 0] 87)); have C3 := Lib.hid (bseq C2.out D3.out); have X3 := Lib.hid (X2.out.below D3.out); clear t0 t1 hb3; obtain ⟨t0, t1⟩ := HPB.out _ C3.out; obtain ⟨x0, x1, x2, x3⟩ := X3.out.c4)
    | (go_at_call 52; (with_reducible refine (HHS.out _).mono ?_); rintro r w5 ⟨rfl, hb5⟩; have C5 := Lib.hid (bseq C3.out hb5); clear t0 t1; obtain ⟨t0, t1⟩ := HPB.out _ C5.out)
    | (go_at_call 53; (with_reducible refine (HMY.out _).mono ?_); rintro r w4 ⟨rfl, hb4⟩; have C4 := Lib.hid (bseq C5.out hb4))
    | (go_at_call 49; (with_reducible refine (HW.out _).mono ?_); rintro r w6 ⟨rfl, hb6⟩; have C6 := Lib.hid (bseq C4.out hb6)))
  go_ret
  exact ⟨rfl, bseq HB0.out C6.out⟩

end Go.Proofs.YtdoaniccefdkaaaGreatDoor
