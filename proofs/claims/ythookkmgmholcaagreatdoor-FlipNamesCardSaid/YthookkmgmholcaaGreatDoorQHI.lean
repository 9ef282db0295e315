/- trivetlaw17.works; FlipNames: the walks. -/
import Derived.Test.YthookkmgmholcaaGreatDoorQHG
namespace Go.Proofs.YthookkmgmholcaaGreatDoor
open Go.RowKit Tvf Go.Maps Go.WideMaps

set_option maxRecDepth 100000 in
set_option maxHeartbeats 8000000 in
theorem fworks_walk (w : World) : Calls Tryz.prog 13 #[] w fun r w' => r = .returned (.bool true) ∧ Below w.heap.size w w' := by
  go_enter Tryz.func13, Tryz.ntmps13
  go_wp2_with (first
    | (go_at_call 14; with_reducible refine (of_fm w).mono ?_; rintro r w1 ⟨mA, FA, rfl, m1⟩)
    | (go_at_call 18; with_reducible refine (c_del_yes m1 fmA_64 fmA_sound fm_small small1 small3 fm_s13 fm_m13 fm_within).mono ?_; rintro r w2 ⟨rfl, _, m2⟩; clear m1)
    | (go_at_call 17; with_reducible refine (c_may m2 fmA_64 fmA_sound fm_small small3 small1 fm_31).mono ?_; rintro r w3 ⟨rfl, _, m3⟩; clear m2)
    | (go_at_call 16; with_reducible refine (c_turn_none m3 small0 small1 fm_s01).mono ?_; rintro r w4 ⟨rfl, _, m4⟩; clear m3)
    | (go_at_call 16; with_reducible refine (c_turn_ok m4 fmA_64 fmA_sound fm_small (by decide) small1 small3 fm_s13 fm_m13 fm_turn).mono ?_; rintro r w5 ⟨rfl, GA, m5⟩; clear m4)
    | (go_at_call 14; with_reducible refine (of_fo w5).mono ?_; rintro r w6 ⟨mO, FO, rfl, m6⟩; have t6 := two_of m5 m6; clear m5 m6)
    | (go_at_call 18; with_reducible refine (t_del t6 foA_64 foA_sound fo_small small0 small2 fo_s02 fo_m02 fo_within (u := false) rfl).mono ?_; rintro r w7 ⟨rfl, t7⟩; clear t6)
    | (go_at_call 19; with_reducible refine (t_allO t7 (by decide)).mono ?_; rintro r w8 ⟨rfl, GO, t8⟩; clear t7)
    | (go_at_call 23; with_reducible refine (t_tris_b t8 fmB_sound fmB_small fm_tris).mono ?_; rintro r w9 ⟨ad9, cap9, rfl, k9, t9⟩; clear t8)
    | (go_at_call 25; refine (t_same k9 t9 (by decide)).mono ?_; rintro r w10 ⟨rfl, t10⟩; clear t9 k9)
    | (go_at_call 23; with_reducible refine (t_tris_a t10 foB_sound foB_small fo_tris).mono ?_; rintro r w11 ⟨ad11, cap11, rfl, k11, t11⟩; clear t10)
    | (go_at_call 25; refine (t_same k11 t11 (by decide)).mono ?_; rintro r w12 ⟨rfl, t12⟩; clear t11 k11)
    | (go_at_call 18; with_reducible refine (t_del t12 foB_64 foB_sound foB_small small1 small3 fo_s13 fo_m13 fo_within2 (u := true) rfl).mono ?_; rintro r w13 ⟨rfl, t13⟩; clear t12))
  go_ret
  exact ⟨rfl, t13.out.a.keep⟩

set_option maxRecDepth 100000 in
set_option maxHeartbeats 8000000 in
theorem fnames_walk (w : World) : Calls Tryz.prog 3 #[] w fun r w' => r = .returned (.bool true) ∧ Below w.heap.size w w' := by
  have HW := Lib.hid (fworks_walk w)
  go_enter Tryz.func3, Tryz.ntmps3
  go_wp2_with (first
    | (go_at_call 13; with_reducible refine HW.out.mono ?_; rintro r w1 ⟨rfl, hb1⟩)
    | (go_at_call 14; with_reducible refine (of_fo w1).mono ?_; rintro r w2 ⟨mA, FA, rfl, m2⟩)
    | (go_at_call 15; with_reducible refine (c_fix m2 (by decide)).mono ?_; rintro r w3 ⟨rfl, m3⟩; clear m2)
    | (go_at_call 16; with_reducible refine (c_turn_no m3 foX_64 foX_sound foX_small small0 small2 fx_s02 fx_m02).mono ?_; rintro r w4 ⟨rfl, _, m4⟩; clear m3)
    | (go_at_call 17; with_reducible refine (c_may m4 foX_64 foX_sound foX_small small0 small2 fx_02).mono ?_; rintro r w5 ⟨rfl, _, m5⟩; clear m4)
    | (go_at_call 18; with_reducible refine (c_del_no m5 foX_64 foX_sound foX_small small0 small2 fx_02).mono ?_; rintro r w6 ⟨rfl, _, m6⟩; clear m5)
    | (go_at_call 14; with_reducible refine (of_fw w6).mono ?_; rintro r w7 ⟨mW, FW, rfl, n7⟩)
    | (go_at_call 17; with_reducible refine (c_may n7 fwA_64 fwA_sound fw_small small0 small1 fw_01).mono ?_; rintro r w8 ⟨rfl, _, n8⟩; clear n7)
    | (go_at_call 18; with_reducible refine (c_del_no n8 fwA_64 fwA_sound fw_small small0 small1 fw_01).mono ?_; rintro r w9 ⟨rfl, _, n9⟩; clear n8)
    | (go_at_call 16; with_reducible refine (c_turn_no n9 fwA_64 fwA_sound fw_small small0 small1 fw_s01 fw_m01).mono ?_; rintro r w10 ⟨rfl, _, n10⟩; have m10 := Lib.hid (m6.out.below n10.out.keep); clear n9 n10 m6)
    | (go_at_call 19; with_reducible refine (c_allX m10 (by decide)).mono ?_; rintro r w11 ⟨rfl, G11, m11⟩; clear m10)
    | (go_at_call 19; with_reducible refine (All_nil _).mono ?_; rintro r w12 ⟨rfl, rfl⟩)
    | (go_at_call 20; with_reducible refine (Settle_nil _ _).mono ?_; rintro r w13 ⟨rfl, rfl⟩)
    | (go_at_call 16; with_reducible refine (turn_nil _ _ _).mono ?_; rintro r w14 ⟨rfl, rfl⟩)
    | (go_at_call 18; with_reducible refine (del_nil _ _ _).mono ?_; rintro r w15 ⟨rfl, rfl⟩)
    | (go_at_call 17; with_reducible refine (fmay_nil _ _ _).mono ?_; rintro r w16 ⟨rfl, hb16⟩; have m16 := Lib.hid (m11.out.below hb16); clear m11 hb16)
    | (go_at_call 18; with_reducible refine (c_del_no m16 foX_64 foX_sound foX_small small7 smallm3 fx_73).mono ?_; rintro r w17 ⟨rfl, _, m17⟩; clear m16)
    | (go_at_call 17; with_reducible refine (c_may m17 foX_64 foX_sound foX_small small7 smallm3 fx_73).mono ?_; rintro r w18 ⟨rfl, _, m18⟩; clear m17))
  go_ret
  exact ⟨rfl, hb1.trans (m18.out.keep.mono hb1.size)⟩

end Go.Proofs.YthookkmgmholcaaGreatDoor
