/- Part of the proof. No conditions. -/
import Derived.Test.YtdoaniccefdkaaaGreatDoorZX

set_option linter.all false
/- trivetlaw16.awake, WalkNames: the walks. -/
namespace Go.Proofs.YtdoaniccefdkaaaGreatDoor
open Go.RowKit Tvf Go.Maps Go.WideMaps

def sqT : List Tri3 := [(0, 1, 2), (1, 3, 2)]
theorem sq_good : (goodL (emptyM sqP) sqT).length = 2 := by decide +kernel
theorem sq_ok00 : ptOK (0, 0) = true := by decide +kernel
theorem sq_ok11 : ptOK (4607182418800017408, 4607182418800017408) = true := by decide +kernel
theorem sq_okhh : ptOK (4602678819172646912, 4602678819172646912) = true := by decide +kernel
theorem sq_ok30 : ptOK (4613937818241073152, 0) = true := by decide +kernel
theorem sq_has0 : hasM sqM 0 = true := by decide +kernel
theorem sq_has3 : hasM sqM 3 = true := by decide +kernel
theorem sqM_64 : ∀ p, p ∈ sqM.P → pt64 p := by rw [sqM_P]; exact sq_64
theorem sq_edges_short : (edgeL sqM.ap sqM.P.length).length ≤ 4294967296 := by rw [sq_edge]; decide
theorem sq_clearP : ClearP sqM 0 3 := by
  intro t ht c hc
  have h := sq_clear
  unfold clearB at h
  have h1 := List.all_eq_true.1 h t ht
  have h2 := List.all_eq_true.1 h1 c hc
  simp only [Bool.or_eq_true, decide_eq_true_eq] at h2
  exact h2

/-- what awake lays for made -/
theorem sq_args (w : World) :
    PCells ((w.alloc (.cells #[.float .f64 0, .float .f64 0, .float .f64 4611686018427387904, .float .f64 0, .float .f64 0, .float .f64 4611686018427387904, .float .f64 4611686018427387904, .float .f64 4611686018427387904] 52)).alloc (.cells #[.int .i64 0, .int .i64 1, .int .i64 2, .int .i64 1, .int .i64 3, .int .i64 2] 45)) (some ⟨w.heap.size, 0, none⟩) sqP ∧
    TCells ((w.alloc (.cells #[.float .f64 0, .float .f64 0, .float .f64 4611686018427387904, .float .f64 0, .float .f64 0, .float .f64 4611686018427387904, .float .f64 4611686018427387904, .float .f64 4611686018427387904] 52)).alloc (.cells #[.int .i64 0, .int .i64 1, .int .i64 2, .int .i64 1, .int .i64 3, .int .i64 2] 45)) (some ⟨w.heap.size + 1, 0, none⟩) sqT := by
  obtain ⟨B1, B2, _⟩ := find_boxes w #[.float .f64 0, .float .f64 0, .float .f64 4611686018427387904, .float .f64 0, .float .f64 0, .float .f64 4611686018427387904, .float .f64 4611686018427387904, .float .f64 4611686018427387904] #[.int .i64 0, .int .i64 1, .int .i64 2, .int .i64 1, .int .i64 3, .int .i64 2] 52 45
  refine ⟨fun _ => ⟨_, 0, rfl, B1.lt, fun i hi => ?_⟩, fun _ => ⟨_, 0, rfl, B2.lt, fun i hi => ?_⟩⟩
  · have : i = 0 ∨ i = 1 ∨ i = 2 ∨ i = 3 := by simp [sqP] at hi; omega
    rcases this with rfl | rfl | rfl | rfl
    · exact ⟨B1.c 0, B1.c 1⟩
    · exact ⟨B1.c 2, B1.c 3⟩
    · exact ⟨B1.c 4, B1.c 5⟩
    · exact ⟨B1.c 6, B1.c 7⟩
  · have : i = 0 ∨ i = 1 := by simp [sqT] at hi; omega
    rcases this with rfl | rfl
    · exact ⟨B2.c 0, B2.c 1, B2.c 2⟩
    · exact ⟨B2.c 3, B2.c 4, B2.c 5⟩

theorem made_sq (w : World) (w1 : World) (hb : Below w.heap.size w w1) :
    Calls Tryz.prog 50 #[.slice (some ⟨w1.heap.size, 0, none⟩) 4 4, .slice (some ⟨w1.heap.size + 1, 0, none⟩) 2 2] ((w1.alloc (.cells #[.float .f64 0, .float .f64 0, .float .f64 4611686018427387904, .float .f64 0, .float .f64 0, .float .f64 4611686018427387904, .float .f64 4611686018427387904, .float .f64 4611686018427387904] 52)).alloc (.cells #[.int .i64 0, .int .i64 1, .int .i64 2, .int .i64 1, .int .i64 3, .int .i64 2] 45)) fun r w' =>
      ∃ mb F ad cap, r = .returned (.tuple #[.pointer (some ⟨mb, 0, none⟩), .slice ad 2 cap]) ∧ Hid (MB w w' mb 6 sqM F) := by
  obtain ⟨h1, h2⟩ := sq_args w1
  have hb2 : Below w.heap.size w ((w1.alloc (.cells #[.float .f64 0, .float .f64 0, .float .f64 4611686018427387904, .float .f64 0, .float .f64 0, .float .f64 4611686018427387904, .float .f64 4611686018427387904, .float .f64 4611686018427387904] 52)).alloc (.cells #[.int .i64 0, .int .i64 1, .int .i64 2, .int .i64 1, .int .i64 3, .int .i64 2] 45)) := (hb.alloc hb.size _).alloc (Nat.le_trans hb.size (by simp)) _
  have h := made16_ok sqP _ 4 sqT _ 2 sq_64 sq_all (by rw [sqP_len]; omega) (by decide) _ h1 h2
  rw [sq_good] at h
  refine h.mono ?_
  rintro r w' ⟨mb, F, ad, cap, rfl, hm, _, _⟩
  refine ⟨mb, F, ad, cap, rfl, ?_⟩
  have e : foldM (emptyM sqP) sqT = sqM := sq_sq
  rw [e] at hm
  exact hm.from hb2

theorem c_find {w0 w : World} {mb : Nat} {F : Nat → Prop} (h : Hid (MB w0 w mb 6 sqM F)) (px py : Nat) (hp : pt64 (px, py)) (hk : ptOK (px, py) = true) (s : Nat) (hs : s < 18446744073709551616) (z : Int) (hz : z = s) (k a b c : Int) (hx : findM sqM (px, py) s = ⟨k, a, b, c⟩) :
    Calls Tryz.prog 51 #[.pointer (some ⟨mb, 0, none⟩), .agg #[.float .f64 px, .float .f64 py], .int .u64 z] w fun r w' => r = .returned (.tuple #[.agg #[.int .u8 k, .int .i64 a, .int .i64 b, .int .i64 c], .int .i64 0]) ∧ Below w.heap.size w w' ∧ Hid (MB w0 w' mb 6 sqM F) := by
  subst hz
  refine (find_main h.out.at_ sqM_64 sq_sound sq_small (px, py) hp hk s hs).mono ?_
  rintro r w' ⟨rfl, hb⟩
  rw [hx]
  exact ⟨rfl, hb, h.out.below hb⟩

theorem c_across {w0 w : World} {mb : Nat} {F : Nat → Prop} (h : Hid (MB w0 w mb 6 sqM F)) :
    Calls Tryz.prog 54 #[.pointer (some ⟨mb, 0, none⟩), .int .i64 0, .int .i64 3] w fun r w' => ∃ g cap, r = .returned (.tuple #[.slice (some ⟨g, 0, none⟩) 1 cap, .int .i64 0]) ∧ Below w.heap.size w w' ∧ Hid (MB w0 w' mb 6 sqM F) ∧ Hid (∀ w2, Below w'.heap.size w' w2 → w2.cell? ⟨g, 0, none⟩ = some (.int .i64 1) ∧ w2.cell? ⟨g, 1, none⟩ = some (.int .i64 2)) := by
  have hc := across_walk h.out.at_ sqM_64 sq_sound sq_small 0 3 sq_has0 sq_has3 sq_edges_short
  rw [sq_across] at hc
  refine hc.mono ?_
  rintro r w' ⟨ad, cap, rfl, hk, hb⟩
  obtain ⟨g, rfl, hg, hcc⟩ := hk.out (by decide)
  exact ⟨g, cap, rfl, hb.out, h.out.below hb.out, fun w2 h2 => ⟨(h2.cell (p := ⟨g, 0, none⟩) hg).trans (hcc 0 _ rfl), (h2.cell (p := ⟨g, 1, none⟩) hg).trans (hcc 1 _ rfl)⟩⟩

theorem c_through {w0 w : World} {mb : Nat} {F : Nat → Prop} (h : Hid (MB w0 w mb 6 sqM F)) :
    Calls Tryz.prog 55 #[.pointer (some ⟨mb, 0, none⟩), .int .i64 0, .int .i64 3] w fun r w' => r = .returned (.tuple #[.slice none 0 0, .int .i64 0]) ∧ Below w.heap.size w w' ∧ Hid (MB w0 w' mb 6 sqM F) := by
  refine (through_clear h.out.at_ sqM_64 sq_sound sq_small 0 3 sq_has0 sq_has3 sq_clearP).mono ?_
  rintro r w' ⟨rfl, hb⟩
  exact ⟨rfl, hb, h.out.below hb⟩

theorem plc_eq1 (w : World) : (binOp .eql 87 (.agg #[.int .u8 3, .int .i64 0, .int .i64 0, .int .i64 0]) (.agg #[.int .u8 3, .int .i64 0, .int .i64 0, .int .i64 0])).run Tryz.prog w = .ok (.bool true) w := by kernel_rfl
theorem plc_eq2 (w : World) : (binOp .eql 87 (.agg #[.int .u8 2, .int .i64 1, .int .i64 2, .int .i64 0]) (.agg #[.int .u8 2, .int .i64 1, .int .i64 2, .int .i64 0])).run Tryz.prog w = .ok (.bool true) w := by kernel_rfl
theorem plc_eq3 (w : World) : (binOp .eql 87 (.agg #[.int .u8 1, .int .i64 0, .int .i64 1, .int .i64 2]) (.agg #[.int .u8 1, .int .i64 0, .int .i64 1, .int .i64 2])).run Tryz.prog w = .ok (.bool true) w := by kernel_rfl
theorem plc_eq4 (w : World) : (binOp .eql 87 (.agg #[.int .u8 4, .int .i64 0, .int .i64 0, .int .i64 0]) (.agg #[.int .u8 4, .int .i64 0, .int .i64 0, .int .i64 0])).run Tryz.prog w = .ok (.bool true) w := by kernel_rfl
theorem pair12_eq (w : World) : (binOp .eql 62 (.agg #[.int .i64 1, .int .i64 2]) (.agg #[.int .i64 1, .int .i64 2])).run Tryz.prog w = .ok (.bool true) w := by kernel_rfl

end Go.Proofs.YtdoaniccefdkaaaGreatDoor

/- trivetlaw16.awake, WalkNames: the walks. -/
namespace Go.Proofs.YtdoaniccefdkaaaGreatDoor
open Go.RowKit Tvf Go.Maps Go.WideMaps

theorem p64_00 : pt64 (0, 0) := by unfold pt64; decide
theorem p64_11 : pt64 (4607182418800017408, 4607182418800017408) := by unfold pt64; decide
theorem p64_hh : pt64 (4602678819172646912, 4602678819172646912) := by unfold pt64; decide
theorem p64_30 : pt64 (4613937818241073152, 0) := by unfold pt64; decide

set_option maxRecDepth 100000 in
set_option maxHeartbeats 8000000 in
theorem awake16_walk (w : World) : Calls Tryz.prog 49 #[] w fun r w' => r = .returned (.bool true) ∧ Below w.heap.size w w' := by
  have HA1 := Lib.hid (at16_walk 0 0)
  have HA2 := Lib.hid (at16_walk 4611686018427387904 0)
  have HA3 := Lib.hid (at16_walk 0 4611686018427387904)
  have HA4 := Lib.hid (at16_walk 4611686018427387904 4611686018427387904)
  have HA5 := Lib.hid (at16_walk 4607182418800017408 4607182418800017408)
  have HA6 := Lib.hid (at16_walk 4602678819172646912 4602678819172646912)
  have HA7 := Lib.hid (at16_walk 4613937818241073152 0)
  have HMD := Lib.hid (made_sq w)
  have HF1 := Lib.hid (fun W mb F (h : Hid (MB w W mb 6 sqM F)) => c_find h 0 0 p64_00 sq_ok00 1 (by decide) 1 rfl 3 0 0 0 sq_findA)
  have HF2 := Lib.hid (fun W mb F (h : Hid (MB w W mb 6 sqM F)) => c_find h 4607182418800017408 4607182418800017408 p64_11 sq_ok11 2 (by decide) 2 rfl 2 1 2 0 sq_findB)
  have HF3 := Lib.hid (fun W mb F (h : Hid (MB w W mb 6 sqM F)) => c_find h 4602678819172646912 4602678819172646912 p64_hh sq_okhh 3 (by decide) 3 rfl 1 0 1 2 sq_findC)
  have HF4 := Lib.hid (fun W mb F (h : Hid (MB w W mb 6 sqM F)) => c_find h 4613937818241073152 0 p64_30 sq_ok30 4 (by decide) 4 rfl 4 0 0 0 sq_findD)
  have HX := Lib.hid (fun W mb F (h : Hid (MB w W mb 6 sqM F)) => c_across h)
  have HT := Lib.hid (fun W mb F (h : Hid (MB w W mb 6 sqM F)) => c_through h)
  have q1 := plc_eq1
  have q2 := plc_eq2
  have q3 := plc_eq3
  have q4 := plc_eq4
  have q5 := pair12_eq
  go_enter Tryz.func49, Tryz.ntmps49
  go_wp2_with (first
    | (go_at_call 57; with_reducible refine (HA1.out w).mono ?_; rintro r w1 ⟨rfl, b1⟩)
    | (go_at_call 57; with_reducible refine (HA2.out w1).mono ?_; rintro r w2 ⟨rfl, hb2⟩; have b2 := b1.trans (hb2.mono b1.size))
    | (go_at_call 57; with_reducible refine (HA3.out w2).mono ?_; rintro r w3 ⟨rfl, hb3⟩; have b3 := b2.trans (hb3.mono b2.size))
    | (go_at_call 57; with_reducible refine (HA4.out w3).mono ?_; rintro r w4 ⟨rfl, hb4⟩; have b4 := Lib.hid (b3.trans (hb4.mono b3.size)); clear b1 b2 b3 hb2 hb3 hb4)
    | (go_at_call 50; with_reducible refine (HMD.out _ b4.out).mono ?_; rintro r w5 ⟨mb, F, ad, cap, rfl, m5⟩)
    | (go_at_call 57; with_reducible refine (HA1.out w5).mono ?_; rintro r w6 ⟨rfl, b6⟩; have m6 := Lib.hid (m5.out.below b6))
    | (go_at_call 51; with_reducible refine (HF1.out _ _ _ m6).mono ?_; rintro r w7 ⟨rfl, b7, m7⟩; have a7 := Lib.hid (BoxN.new w7 #[.int .u8 3, .int .i64 0, .int .i64 0, .int .i64 0] 87); have n7 := Lib.hid (m7.out.below ((Below.refl w7.heap.size w7).alloc (Nat.le_refl _) (.cells #[.int .u8 3, .int .i64 0, .int .i64 0, .int .i64 0] 87))))
    | (go_at_call 57; with_reducible refine (HA5.out _).mono ?_; rintro r w8 ⟨rfl, b8⟩; have m8 := Lib.hid (n7.out.below b8); have a8 := Lib.hid (a7.out.below b8))
    | (go_at_call 51; with_reducible refine (HF2.out _ _ _ m8).mono ?_; rintro r w9 ⟨rfl, b9, m9⟩; have n9 := Lib.hid (m9.out.below ((Below.refl w9.heap.size w9).alloc (Nat.le_refl _) (.cells #[.int .u8 2, .int .i64 1, .int .i64 2, .int .i64 0] 87))); have a9 := Lib.hid ((a8.out.below b9).al (.cells #[.int .u8 2, .int .i64 1, .int .i64 2, .int .i64 0] 87)); have c9 := Lib.hid (BoxN.new w9 #[.int .u8 2, .int .i64 1, .int .i64 2, .int .i64 0] 87))
    | (go_at_call 57; with_reducible refine (HA6.out _).mono ?_; rintro r w10 ⟨rfl, b10⟩; have m10 := Lib.hid (n9.out.below b10); have a10 := Lib.hid (a9.out.below b10); have c10 := Lib.hid (c9.out.below b10))
    | (go_at_call 51; with_reducible refine (HF3.out _ _ _ m10).mono ?_; rintro r w11 ⟨rfl, b11, m11⟩; have n11 := Lib.hid (m11.out.below ((Below.refl w11.heap.size w11).alloc (Nat.le_refl _) (.cells #[.int .u8 1, .int .i64 0, .int .i64 1, .int .i64 2] 87))); have a11 := Lib.hid ((a10.out.below b11).al (.cells #[.int .u8 1, .int .i64 0, .int .i64 1, .int .i64 2] 87)); have c11 := Lib.hid ((c10.out.below b11).al (.cells #[.int .u8 1, .int .i64 0, .int .i64 1, .int .i64 2] 87)); have d11 := Lib.hid (BoxN.new w11 #[.int .u8 1, .int .i64 0, .int .i64 1, .int .i64 2] 87))
    | (go_at_call 57; with_reducible refine (HA7.out _).mono ?_; rintro r w12 ⟨rfl, b12⟩; have m12 := Lib.hid (n11.out.below b12); have a12 := Lib.hid (a11.out.below b12); have c12 := Lib.hid (c11.out.below b12); have d12 := Lib.hid (d11.out.below b12))
    | (go_at_call 51; with_reducible refine (HF4.out _ _ _ m12).mono ?_; rintro r w13 ⟨rfl, b13, m13⟩; have n13 := Lib.hid (m13.out.below ((Below.refl w13.heap.size w13).alloc (Nat.le_refl _) (.cells #[.int .u8 4, .int .i64 0, .int .i64 0, .int .i64 0] 87))); have a13 := Lib.hid ((a12.out.below b13).al (.cells #[.int .u8 4, .int .i64 0, .int .i64 0, .int .i64 0] 87)); have c13 := Lib.hid ((c12.out.below b13).al (.cells #[.int .u8 4, .int .i64 0, .int .i64 0, .int .i64 0] 87)); have d13 := Lib.hid ((d12.out.below b13).al (.cells #[.int .u8 4, .int .i64 0, .int .i64 0, .int .i64 0] 87)); have e13 := Lib.hid (BoxN.new w13 #[.int .u8 4, .int .i64 0, .int .i64 0, .int .i64 0] 87))
    | (go_at_call 54; with_reducible refine (HX.out _ _ _ n13).mono ?_; rintro r w14 ⟨g, cap', rfl, b14, m14, k14⟩; have a14 := Lib.hid (a13.out.below b14); have c14 := Lib.hid (c13.out.below b14); have d14 := Lib.hid (d13.out.below b14); have e14 := Lib.hid (e13.out.below b14))
    | (go_at_call 55; with_reducible refine (HT.out _ _ _ m14).mono ?_; rintro r w15 ⟨rfl, b15, m15⟩; have a15 := (a14.out.below b15).c4; have c15 := (c14.out.below b15).c4; have d15 := (d14.out.below b15).c4; have e15 := (e14.out.below b15).c4; have k15 := k14.out _ b15))
  go_ret
  exact ⟨rfl, m15.out.keep⟩

set_option maxRecDepth 100000 in
set_option maxHeartbeats 4000000 in
theorem wnames_walk (w : World) : Calls Tryz.prog 10 #[] w fun r w' => r = .returned (.bool true) ∧ Below w.heap.size w w' := by
  have HF := Lib.hid (fun v w => find_nil (5062045981164437504, 0) v w)
  unfold V plcV plc0 at HF
  have HX := Lib.hid (across_nil 0 0)
  have HT := Lib.hid (through_nil (-1) 0)
  have HA := Lib.hid awake16_walk
  go_enter Tryz.func10, Tryz.ntmps10
  go_wp2_with (first
    | (go_at_call 51; with_reducible refine (HF.out _ _).mono ?_; rintro r w1 ⟨rfl, b1⟩; have b1' := b1.alloc b1.size (.cells #[.int .u8 0, .int .i64 0, .int .i64 0, .int .i64 0] 87))
    | (go_at_call 54; with_reducible refine (HX.out _).mono ?_; rintro r w2 ⟨rfl, hb2⟩; have b2 := b1'.trans (hb2.mono b1'.size))
    | (go_at_call 55; with_reducible refine (HT.out _).mono ?_; rintro r w3 ⟨rfl, hb3⟩; have b3 := b2.trans (hb3.mono b2.size))
    | (go_at_call 49; with_reducible refine (HA.out _).mono ?_; rintro r w4 ⟨rfl, hb4⟩; have b4 := b3.trans (hb4.mono b3.size)))
  go_ret
  exact ⟨rfl, b4⟩

end Go.Proofs.YtdoaniccefdkaaaGreatDoor
