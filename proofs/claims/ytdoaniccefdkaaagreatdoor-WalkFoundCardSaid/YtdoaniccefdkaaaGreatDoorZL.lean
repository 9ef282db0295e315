/- Part of the proof. No conditions. -/
import Derived.Test.YtdoaniccefdkaaaGreatDoorZK

set_option linter.all false
/- trivetlaw16.awake, WalkNames: the walks. -/
namespace Go.Proofs.YtdoaniccefdkaaaGreatDoor
open Go.RowKit Tvf Go.Maps Go.WideMaps

theorem p64_00 : pt64 (0, 0) := by unfold pt64; decide
theorem p64_11 : pt64 (4607182418800017408, 4607182418800017408) := by unfold pt64; decide
theorem p64_hh : pt64 (4602678819172646912, 4602678819172646912) := by unfold pt64; decide
theorem p64_30 : pt64 (4613937818241073152, 0) := by unfold pt64; decide

set_option maxRecDepth 100000 in
set_option maxHeartbeats 8000000 in
theorem awake16_walk (w : World) : Calls Tryz.prog 49 #[] w fun r w' => r = .returned (.bool true) ∧ Below w.heap.size w w' := by
  have HA1 := Lib.hid (at16_walk 0 0)
  have HA2 := Lib.hid (at16_walk 4611686018427387904 0)
  have HA3 := Lib.hid (at16_walk 0 4611686018427387904)
  have HA4 := Lib.hid (at16_walk 4611686018427387904 4611686018427387904)
  have HA5 := Lib.hid (at16_walk 4607182418800017408 4607182418800017408)
  have HA6 := Lib.hid (at16_walk 4602678819172646912 4602678819172646912)
  have HA7 := Lib.hid (at16_walk 4613937818241073152 0)
  have HMD := Lib.hid (made_sq w)
  have HF1 := Lib.hid (fun W mb F (h : Hid (MB w W mb 6 sqM F)) => c_find h 0 0 p64_00 sq_ok00 1 (by decide) 1 rfl 3 0 0 0 sq_findA)
  have HF2 := Lib.hid (fun W mb F (h : Hid (MB w W mb 6 sqM F)) => c_find h 4607182418800017408 4607182418800017408 p64_11 sq_ok11 2 (by decide) 2 rfl 2 1 2 0 sq_findB)
  have HF3 := Lib.hid (fun W mb F (h : Hid (MB w W mb 6 sqM F)) => c_find h 4602678819172646912 4602678819172646912 p64_hh sq_okhh 3 (by decide) 3 rfl 1 0 1 2 sq_findC)
  have HF4 := Lib.hid (fun W mb F (h : Hid (MB w W mb 6 sqM F)) => c_find h 4613937818241073152 0 p64_30 sq_ok30 4 (by decide) 4 rfl 4 0 0 0 sq_findD)
  have HX := Lib.hid (fun W mb F (h : Hid (MB w W mb 6 sqM F)) => c_across h)
  have HT := Lib.hid (fun W mb F (h : Hid (MB w W mb 6 sqM F)) => c_through h)
  have q1 := plc_eq1
  have q2 := plc_eq2
  have q3 := plc_eq3
  have q4 := plc_eq4
  have q5 := pair12_eq
  go_enter Tryz.func49, Tryz.ntmps49
  go_wp2_with (first
    | (go_at_call 57; with_reducible refine (HA1.out w).mono ?_; rintro r w1 ⟨rfl, b1⟩)
    | (go_at_call 57; with_reducible refine (HA2.out w1).mono ?_; rintro r w2 ⟨rfl, hb2⟩; have b2 := b1.trans (hb2.mono b1.size))
    | (go_at_call 57; with_reducible refine (HA3.out w2).mono ?_; rintro r w3 ⟨rfl, hb3⟩; have b3 := b2.trans (hb3.mono b2.size))
    | (go_at_call 57; with_reducible refine (HA4.out w3).mono ?_; rintro r w4 ⟨rfl, hb4⟩; have b4 := Lib.hid (b3.trans (hb4.mono b3.size)); clear b1 b2 b3 hb2 hb3 hb4)
    | (go_at_call 50; with_reducible refine (HMD.out _ b4.out).mono ?_; rintro r w5 ⟨mb, F, ad, cap, rfl, m5⟩)
    | (go_at_call 57; with_reducible refine (HA1.out w5).mono ?_; rintro r w6 ⟨rfl, b6⟩; have m6 := Lib.hid (m5.out.below b6))
    | (go_at_call 51; with_reducible refine (HF1.out _ _ _ m6).mono ?_; rintro r w7 ⟨rfl, b7, m7⟩; have a7 := Lib.hid (BoxN.new w7 #[.int .u8 3, .int .i64 0, .int .i64 0, .int .i64 0] 87); have n7 := Lib.hid (m7.out.below ((Below.refl w7.heap.size w7).alloc (Nat.le_refl _) (.cells #[.int .u8 3, .int .i64 0, .int .i64 0, .int .i64 0] 87))))
    | (go_at_call 57; with_reducible refine (HA5.out _).mono ?_; rintro r w8 ⟨rfl, b8⟩; have m8 := Lib.hid (n7.out.below b8); have a8 := Lib.hid (a7.out.below b8))
    | (go_at_call 51; with_reducible refine (HF2.out _ _ _ m8).mono ?_; rintro r w9 ⟨rfl, b9, m9⟩; have n9 := Lib.hid (m9.out.below ((Below.refl w9.heap.size w9).alloc (Nat.le_refl _) (.cells #[.int .u8 2, .int .i64 1, .int .i64 2, .int .i64 0] 87))); have a9 := Lib.hid ((a8.out.below b9).al (.cells #[.int .u8 2, .int .i64 1, .int .i64 2, .int .i64 0] 87)); have c9 := Lib.hid (BoxN.new w9 #[.int .u8 2, .int .i64 1, .int .i64 2, .int .i64 0] 87))
    | (go_at_call 57; with_reducible refine (HA6.out _).mono ?_; rintro r w10 ⟨rfl, b10⟩; have m10 := Lib.hid (n9.out.below b10); have a10 := Lib.hid (a9.out.below b10); have c10 := Lib.hid (c9.out.below b10))
    | (go_at_call 51; with_reducible refine (HF3.out _ _ _ m10).mono ?_; rintro r w11 ⟨rfl, b11, m11⟩; have n11 := Lib.hid (m11.out.below ((Below.refl w11.heap.size w11).alloc (Nat.le_refl _) (.cells #[.int .u8 1, .int .i64 0, .int .i64 1, .int .i64 2] 87))); have a11 := Lib.hid ((a10.out.below b11).al (.cells #[.int .u8 1, .int .i64 0, .int .i64 1, .int .i64 2] 87)); have c11 := Lib.hid ((c10.out.below b11).al (.cells #[.int .u8 1, .int .i64 0, .int .i64 1, .int .i64 2] 87)); have d11 := Lib.hid (BoxN.new w11 #[.int .u8 1, .int .i64 0, .int .i64 1, .int .i64 2] 87))
    | (go_at_call 57; with_reducible refine (HA7.out _).mono ?_; rintro r w12 ⟨rfl, b12⟩; have m12 := Lib.hid (n11.out.below b12); have a12 := Lib.hid (a11.out.below b12); have c12 := Lib.hid (c11.out.below b12); have d12 := Lib.hid (d11.out.below b12))
    | (go_at_call 51; with_reducible refine (HF4.out _ _ _ m12).mono ?_; rintro r w13 ⟨rfl, b13, m13⟩; have n13 := Lib.hid (m13.out.below ((Below.refl w13.heap.size w13).alloc (Nat.le_refl _) (.cells #[.int .u8 4, .int .i64 0, .int .i64 0, .int .i64 0] 87))); have a13 := Lib.hid ((a12.out.below b13).al (.cells #[.int .u8 4, .int .i64 0, .int .i64 0, .int .i64 0] 87)); have c13 := Lib.hid ((c12.out.below b13).al (.cells #[.int .u8 4, .int .i64 0, .int .i64 0, .int .i64 0] 87)); have d13 := Lib.hid ((d12.out.below b13).al (.cells #[.int .u8 4, .int .i64 0, .int .i64 0, .int .i64 0] 87)); have e13 := Lib.hid (BoxN.new w13 #[.int .u8 4, .int .i64 0, .int .i64 0, .int .i64 0] 87))
    | (go_at_call 54; with_reducible refine (HX.out _ _ _ n13).mono ?_; rintro r w14 ⟨g, cap', rfl, b14, m14, k14⟩; have a14 := Lib.hid (a13.out.below b14); have c14 := Lib.hid (c13.out.below b14); have d14 := Lib.hid (d13.out.below b14); have e14 := Lib.hid (e13.out.below b14))
    | (go_at_call 55; with_reducible refine (HT.out _ _ _ m14).mono ?_; rintro r w15 ⟨rfl, b15, m15⟩; have a15 := (a14.out.below b15).c4; have c15 := (c14.out.below b15).c4; have d15 := (d14.out.below b15).c4; have e15 := (e14.out.below b15).c4; have k15 := k14.out _ b15))
  go_ret
  exact ⟨rfl, m15.out.keep⟩

set_option maxRecDepth 100000 in
set_option maxHeartbeats 4000000 in
theorem wnames_walk (w : World) : Calls Tryz.prog 10 #[] w fun r w' => r = .returned (.bool true) ∧ Below w.heap.size w w' := by
  have HF := Lib.hid (fun v w => find_nil (5062045981164437504, 0) v w)
  unfold V plcV plc0 at HF
  have HX := Lib.hid (across_nil 0 0)
  have HT := Lib.hid (through_nil (-1) 0)
  have HA := Lib.hid awake16_walk
  go_enter Tryz.func10, Tryz.ntmps10
  go_wp2_with (first
    | (go_at_call 51; with_reducible refine (HF.out _ _).mono ?_; rintro r w1 ⟨rfl, b1⟩; have b1' := b1.alloc b1.size (.cells #[.int .u8 0, .int .i64 0, .int .i64 0, .int .i64 0] 87))
    | (go_at_call 54; with_reducible refine (HX.out _).mono ?_; rintro r w2 ⟨rfl, hb2⟩; have b2 := b1'.trans (hb2.mono b1'.size))
    | (go_at_call 55; with_reducible refine (HT.out _).mono ?_; rintro r w3 ⟨rfl, hb3⟩; have b3 := b2.trans (hb3.mono b2.size))
    | (go_at_call 49; with_reducible refine (HA.out _).mono ?_; rintro r w4 ⟨rfl, hb4⟩; have b4 := b3.trans (hb4.mono b3.size)))
  go_ret
  exact ⟨rfl, b4⟩

end Go.Proofs.YtdoaniccefdkaaaGreatDoor
