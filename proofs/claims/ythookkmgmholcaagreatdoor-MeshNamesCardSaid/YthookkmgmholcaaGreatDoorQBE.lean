/- The walk of MeshNames. -/
import Derived.Test.YthookkmgmholcaaGreatDoorQBD
namespace Go.Proofs.YthookkmgmholcaaGreatDoor
open Go.RowKit Go.Maps Go.WideMaps

theorem two_count_a {w0 w : World} {mb n : Nat} {M : MeshM} {F : Nat → Prop} {mb2 n2 : Nat} {M2 : MeshM} {F2 : Nat → Prop} (h : Hid (Two w0 w mb n M F mb2 n2 M2 F2)) (k : Int) (hk : M.cnt = k) :
    Calls Tryz.prog 39 #[.pointer (some ⟨mb, 0, none⟩)] w fun r w' => r = .returned (.int .i64 k) ∧ w' = w := by
  rw [← hk]; exact count_mb h.out.a
theorem two_count_b {w0 w : World} {mb n : Nat} {M : MeshM} {F : Nat → Prop} {mb2 n2 : Nat} {M2 : MeshM} {F2 : Nat → Prop} (h : Hid (Two w0 w mb n M F mb2 n2 M2 F2)) (k : Int) (hk : M2.cnt = k) :
    Calls Tryz.prog 39 #[.pointer (some ⟨mb2, 0, none⟩)] w fun r w' => r = .returned (.int .i64 k) ∧ w' = w := by
  rw [← hk]; exact count_mb h.out.b

set_option maxRecDepth 100000 in
set_option maxHeartbeats 8000000 in
theorem names_walk (w : World) : Calls Tryz.prog 12 #[] w fun r w' => r = .returned (.bool true) ∧ Below w.heap.size w w' := by
  have HW := Lib.hid (works_walk w)
  have hbad : ptOK (5062045981164437504, 0) = false := by decide +kernel
  have h64 : pt64 (5062045981164437504, 0) := by unfold pt64; decide
  have HADD := Lib.hid (fun mb w => add_bad (mb := mb) (5062045981164437504, 0) h64 hbad w)
  unfold V at HADD
  clear hbad h64
  go_enter Tryz.func12, Tryz.ntmps12
  go_wp2_with (first
    | (go_at_call 36; with_reducible refine HW.out.mono ?_; rintro r w1 ⟨rfl, hb1⟩; have HSQ2 := Lib.hid (square_walk w1))
    | (go_at_call 56; with_reducible refine HSQ2.out.mono ?_; rintro r w2 ⟨g2, rfl, hp2, hb2⟩; have b2 := hb1.trans (hb2.mono hb1.size); clear HSQ2 hb1 hb2)
    | (go_at_call 14; with_reducible refine (of_names1 b2 hp2).mono ?_; rintro r w3 ⟨mA, FA, rfl, m3⟩; clear b2 hp2; have HSQ4 := Lib.hid (square_walk w3))
    | (go_at_call 56; with_reducible refine HSQ4.out.mono ?_; rintro r w4 ⟨g4, rfl, hp4, hb4⟩; clear HSQ4)
    | (go_at_call 14; with_reducible refine (of_names2 hp4).mono ?_; rintro r w5 ⟨rfl, hb5⟩; have m5 := Lib.hid ((m3.out.below hb4).below hb5); clear hb4 hp4 m3 hb5)
    | (go_at_call 57; with_reducible refine (nan_walk _).mono ?_; rintro r w6 ⟨rfl, rfl⟩)
    | (go_at_call 48; with_reducible refine (new_nan _).mono ?_; rintro r w7 ⟨rfl, hb7⟩; have m7 := Lib.hid (m5.out.below hb7); clear m5 hb7)
    | (go_at_call 50; with_reducible refine (HADD.out _ _).mono ?_; rintro r w8 ⟨rfl, hb8⟩; have m8 := Lib.hid (m7.out.below hb8); clear m7 hb8)
    | (go_at_call 43; with_reducible refine (make_no m8 nmA_P (by decide) 0 2 1 14 nm_c2 (by decide)).mono ?_; rintro r w9 ⟨rfl, G9, m9⟩; clear m8)
    | (go_at_call 43; with_reducible refine (make_no m9 nmA_P (by decide) 2 0 1 14 nm_c3 (by decide)).mono ?_; rintro r w10 ⟨rfl, G10, m10⟩; clear m9)
    | (go_at_call 43; with_reducible refine (make_no m10 nmA_P (by decide) 0 1 9 11 nm_c4 (by decide)).mono ?_; rintro r w11 ⟨rfl, G11, m11⟩; clear m10)
    | (go_at_call 43; with_reducible refine (make_no m11 nmA_P (by decide) (-1) 0 1 11 nm_c5 (by decide)).mono ?_; rintro r w12 ⟨rfl, G12, m12⟩; clear m11)
    | (go_at_call 43; with_reducible refine (make_no m12 nmA_P (by decide) 0 0 1 14 nm_c6 (by decide)).mono ?_; rintro r w13 ⟨rfl, G13, m13⟩; clear m12)
    | (go_at_call 44; with_reducible refine (kill_yes m13 (by decide) small1 small2 small0 0 nm_k1 nm_kB).mono ?_; rintro r w14 ⟨rfl, G14, m14⟩; clear m13)
    | (go_at_call 44; with_reducible refine (kill_yes m14 (by decide) small1 small2 small0 5 nm_k2 nm_kC).mono ?_; rintro r w15 ⟨rfl, G15, m15⟩; clear m14)
    | (go_at_call 15; with_reducible refine (fix_same m15.out.at_ 0 1 nm_h0).mono ?_; rintro r w16 ⟨rfl, rfl⟩)
    | (go_at_call 15; with_reducible refine (fix_none m15.out.at_ 0 4 1 (.inr ⟨nm_h0, nm_h4⟩)).mono ?_; rintro r w17 ⟨rfl, rfl⟩)
    | (go_at_call 15; with_reducible refine (fix_nm m15 (by decide)).mono ?_; rintro r w18 ⟨rfl, m18⟩; clear m15)
    | (go_at_call 53; with_reducible refine (loose_no m18.out small2 small3 nm_f1).mono ?_; rintro r w19 ⟨rfl, m19'⟩; have m19 := Lib.hid m19'; clear m18 m19')
    | (go_at_call 53; with_reducible refine (loose_ok m19.out small0 small1 nm_f2).mono ?_; rintro r w20 ⟨rfl, m20⟩; have b20 := m20.keep; have HSQ21 := Lib.hid (square_walk w20); clear m19 m20)
    | (go_at_call 56; with_reducible refine HSQ21.out.mono ?_; rintro r w21 ⟨g21, rfl, hp21, hb21⟩; have b21 := b20.trans (hb21.mono b20.size); clear HSQ21 b20 hb21)
    | (go_at_call 14; with_reducible refine (of_names3 b21 hp21).mono ?_; rintro r w22 ⟨mO, FO, rfl, m22⟩; clear b21 hp21)
    | (go_at_call 55; with_reducible refine (copy_two m22 sq_small (by decide)).mono ?_; rintro r w23 ⟨mC, FC, rfl, t23⟩; clear m22)
    | (go_at_call 44; with_reducible refine (two_kill t23 (by decide) small1 small3 small2 0 no_k1 no_kO1).mono ?_; rintro r w24 ⟨rfl, G24, t24⟩; clear t23)
    | (go_at_call 44; with_reducible refine (two_kill t24 (by decide) small0 small1 small2 0 no_k2 no_kO2).mono ?_; rintro r w25 ⟨rfl, G25, t25⟩; clear t24)
    | (go_at_call 39; with_reducible refine (two_count_a t25 0 no_cnt).mono ?_; rintro r w26 ⟨rfl, rfl⟩)
    | (go_at_call 58; with_reducible refine (two_spokes_a t25 no_sound nmO2_P (by decide) small1 0 no_spokes).mono ?_; rintro r w27 ⟨ad27, cap27, rfl, t27⟩; clear t25)
    | (go_at_call 58; with_reducible refine (two_spokes_b t27 sq_sound sqM_P (by decide) small1 3 sq_spokes1).mono ?_; rintro r w28 ⟨ad28, cap28, rfl, t28⟩; clear t27)
    | (go_at_call 39; with_reducible refine (two_count_b t28 2 sq_cnt).mono ?_; rintro r w29 ⟨rfl, rfl⟩)
    | (go_at_call 43; with_reducible refine (two_make t28 (by rw [nmO2_P]; exact sq_64) (by rw [nmO2_P, sqP_len]; omega) (by decide) 0 3 2 0 no_c).mono ?_; rintro r w30 ⟨rfl, G30, t30⟩; clear t28)
    | (go_at_call 58; with_reducible refine (two_spokes_b t30 sq_sound sqM_P (by decide) small0 2 sq_spokes).mono ?_; rintro r w31 ⟨ad31, cap31, rfl, t31⟩; have b31 := t31.out.a.keep; clear t30 t31)
    | (go_at_call 59; with_reducible refine (nil_Point 0 _).mono ?_; rintro r w32 ⟨rfl, hb32⟩; have b32 := b31.trans (hb32.mono b31.size); clear b31 hb32)
    | (go_at_call 50; with_reducible refine (nil_Add 0 0 _).mono ?_; rintro r w33 ⟨rfl, hb33⟩)
    | (go_at_call 24; with_reducible refine (nil_Apex 0 1 _).mono ?_; rintro r w34 ⟨rfl, rfl⟩)
    | (go_at_call 26; with_reducible refine (nil_Fixed 0 1 _).mono ?_; rintro r w35 ⟨rfl, rfl⟩)
    | (go_at_call 43; with_reducible refine (nil_Make 0 1 2 _).mono ?_; rintro r w36 ⟨rfl, rfl⟩)
    | (go_at_call 44; with_reducible refine (nil_Kill 0 1 2 _).mono ?_; rintro r w37 ⟨rfl, rfl⟩)
    | (go_at_call 15; with_reducible refine (nil_Fix 0 1 2 _).mono ?_; rintro r w38 ⟨rfl, rfl⟩)
    | (go_at_call 53; with_reducible refine (nil_Loose 0 1 _).mono ?_; rintro r w39 ⟨rfl, rfl⟩)
    | (go_at_call 55; with_reducible refine (nil_Copy _).mono ?_; rintro r w40 ⟨rfl, rfl⟩)
    | (go_at_call 60; with_reducible refine (nil_Len _).mono ?_; rintro r w41 ⟨rfl, rfl⟩)
    | (go_at_call 39; with_reducible refine (nil_Count _).mono ?_; rintro r w42 ⟨rfl, rfl⟩)
    | (go_at_call 41; with_reducible refine (nil_Points _).mono ?_; rintro r w43 ⟨rfl, rfl⟩)
    | (go_at_call 23; with_reducible refine (nil_Tris _).mono ?_; rintro r w44 ⟨rfl, rfl⟩)
    | (go_at_call 34; with_reducible refine (nil_Edges _).mono ?_; rintro r w45 ⟨rfl, rfl⟩)
    | (go_at_call 38; with_reducible refine (nil_Border _).mono ?_; rintro r w46 ⟨rfl, rfl⟩)
    | (go_at_call 58; with_reducible refine (nil_Spokes 0 _).mono ?_; rintro r w47 ⟨rfl, rfl⟩)
    | (go_at_call 33; with_reducible refine (nil_Fixes _).mono ?_; rintro r w48 ⟨rfl, rfl⟩))
  go_ret
  exact ⟨rfl, (b32.alloc b32.size _).trans (hb33.mono (by have := b32.size; simp; omega))⟩

end Go.Proofs.YthookkmgmholcaaGreatDoor
