/- Part of the proof. No conditions. -/
import Derived.Test.YtbagikgpgdlkcaaGreatDoorZP
import Derived.Test.YtbagikgpgdlkcaaGreatDoorZU
set_option linter.all false
set_option maxHeartbeats 8000000
set_option maxRecDepth 100000
namespace Go.Proofs.YtbagikgpgdlkcaaGreatDoor
open Go.RowKit Go.Maps Go.WideMaps
theorem of_ok (l : List Pt) (ad : Option Addr) (cap : Nat) (T : List Tri3) (at_ : Option Addr) (capt : Nat) (h64 : ∀ p,p ∈ l → pt64 p) (hk : allCode l = 0) (hl : l.length ≤ 1048576) (hT : T.length ≤ 1000000) (hok : allOk (emptyM l) T) (w : World) (hc : PCells w ad l) (hct : KCells encT w at_ T) :
  Calls Tryz.prog 29 #[.slice ad l.length cap,.slice at_ T.length capt] w fun r w' => ∃ mb F,r = .returned (.tuple #[.pointer (some ⟨mb,0,none⟩),.int .i64 0]) ∧ MB w w' mb (3 * T.length) (foldM (emptyM l) T) F := by
 have HN := Lib.hid (new_mb l ad cap h64 hk hl w w (Below.refl _ _) hc)
 have HTC := Lib.hid hct
 have H64 := Lib.hid h64
 have HL := Lib.hid hl
 have HTL := Lib.hid hT
 have HOK := Lib.hid (allOk_at T _ hok)
 clear h64 hk hl hc hct hT hok
 go_enter Tryz.func29,Tryz.ntmps29
 go_wp2_with (go_at_call 33; refine HN.out.mono ?_; rintro r w1 ⟨mb,F,rfl,hm1,_,_⟩)
 have HM1 := Lib.hid hm1
 clear hm1
 go_loopw [21] (fun s21 wr => ∃ (k : Nat) (F : Nat → Prop),k ≤ T.length ∧ s21 = .int .i64 k ∧ Hid (MB w wr mb (3 * k) (foldM (emptyM l) (T.take k)) F)) (fun i _ => T.length - (intOf i).toNat)
 case atStart => exact ⟨0,F,Nat.zero_le _,rfl,HM1.out⟩
 case round =>
  obtain ⟨k,G,hk,rfl,HM⟩ := hrel
  by_cases hlt : k < T.length
  ·obtain ⟨g,rfl,_,q0,q1,q2⟩ := (HTC.out.below HM.out.keep).tri hlt
   have HTS := Lib.hid (take_snocT T k hlt)
   have hco := HOK.out k hlt
   have e : T[k] = T.getD k (0,0,0) := by rw [List.getD_eq_getElem?_getD,List.getElem?_eq_getElem hlt]; rfl
   rw [e] at hco
   clear e
   generalize T.getD k (0,0,0) = t at *
   obtain ⟨ta,tb,tc⟩ := t
   dsimp only at q0 q1 q2 hco
   have HMK : Hid (∀ v,Calls Tryz.prog 34 #[.pointer (some ⟨mb,0,none⟩),.int .i64 ta,.int .i64 tb,.int .i64 tc] (wr.alloc v) fun r w2 => r = .returned (.int .i64 0) ∧ Hid (∃ F2,MB w w2 mb (3 * (k + 1)) (foldM (emptyM l) (T.take (k + 1))) F2)) := by
    intro v
    refine (make_mb (HM.out.below ((Below.refl _ wr).alloc (Nat.le_refl _) v)) (by rw [foldM_P]; exact H64.out) (by rw [foldM_P]; exact HL.out) (by have := HTL.out; omega) ta tb tc).mono ?_
    rintro r w2 ⟨rfl,hm2,_⟩
    refine ⟨by rw [hco],Fx G (wr.alloc v) w2,?_⟩
    rw [HTS.out,foldM_snoc]
    exact hm2
   clear hco
   go_wp2_with (go_at_call 34; refine (HMK.out _).mono ?_; rintro r w2 ⟨rfl,HM2⟩)
   clear q0 q1 q2
   go_roundw
   case rel =>
    obtain ⟨F2,hm2⟩ := HM2.out
    exact ⟨k + 1,F2,by omega,(by have := HTL.out; first | rfl | rw [wrapS (by omega)]),hm2⟩
   case measure => have := HTL.out; first | (simp [intOf]; omega) | (rw [wrapS (by omega)]; simp [intOf]; omega)
  ·have e : k = T.length := by omega
   subst e
   rw [List.take_length] at HM
   clear hlt hk
   go_wp2
   go_ret2
   exact ⟨mb,G,rfl,HM.out⟩
theorem MB.up {w0 w1 w2 : World} {mb n : Nat} {M : MeshM} {F : Nat → Prop} (h : MB w1 w2 mb n M F) (hb : Below w0.heap.size w0 w1) : MB w0 w2 mb n M F :=
 ⟨h.at_,fun i hi => Nat.le_trans hb.size (h.new i hi),hb.trans (h.keep.mono hb.size)⟩
theorem MB.same {w0 w : World} {mb n : Nat} {M M' : MeshM} {F : Nat → Prop} (h : MB w0 w mb n M F) (e : M = M') : MB w0 w mb n M' F := e ▸ h
theorem kcells_new (w : World) (T : List Tri3) (t : TypeId) : KCells encT (w.alloc (.cells (cellsK encT T).toArray t)) (some ⟨w.heap.size,0,none⟩) T := by
 intro _
 refine ⟨_,rfl,by simp,fun j u hu => ?_⟩
 have := cells_new w (cellsK encT T) t j u hu
 rwa [addr_add0] at this
theorem PCells.alloc {w : World} {ad : Option Addr} {l : List Pt} (h : PCells w ad l) (o : Obj) : PCells (w.alloc o) ad l := h.below ((Below.refl _ w).alloc (Nat.le_refl _) o)
theorem small0 : i64ok 0 := by unfold i64ok; omega
theorem small1 : i64ok 1 := by unfold i64ok; omega
theorem small2 : i64ok 2 := by unfold i64ok; omega
theorem small3 : i64ok 3 := by unfold i64ok; omega
structure Two (w0 w : World) (mb n : Nat) (M : MeshM) (F : Nat → Prop) (mb2 n2 : Nat) (M2 : MeshM) (F2 : Nat → Prop) : Prop where
 a : MB w0 w mb n M F
 b : MB w0 w mb2 n2 M2 F2
 off : ∀ i,F2 i → ¬F i
theorem Two.below {w0 w w' : World} {mb n : Nat} {M : MeshM} {F : Nat → Prop} {mb2 n2 : Nat} {M2 : MeshM} {F2 : Nat → Prop} (h : Two w0 w mb n M F mb2 n2 M2 F2) (hb : Below w.heap.size w w') : Two w0 w' mb n M F mb2 n2 M2 F2 :=
 ⟨h.a.below hb,h.b.below hb,h.off⟩
end Go.Proofs.YtbagikgpgdlkcaaGreatDoor
namespace Go.Proofs.YtbagikgpgdlkcaaGreatDoor
open Go.RowKit Tvf
def fmP : List Pt := [(F0,F0),(F4,F0),(F4,F1),(F0,F1),(F2,F9)]
def foP : List Pt := [(F0,F0),(F9,F0),(F9,F9),(F1,F2)]
theorem fmP_len : fmP.length = 5 := rfl
theorem foP_len : foP.length = 4 := rfl
theorem fm_64 : ∀ p,p ∈ fmP → pt64 p := pts64 (by decide)
theorem fo_64 : ∀ p,p ∈ foP → pt64 p := pts64 (by decide)
theorem fm_all : allCode fmP = 0 := by decide +kernel
theorem fo_all : allCode foP = 0 := by decide +kernel
def fm1 : MeshM := makeR (emptyM fmP) 0 1 3
def fm2 : MeshM := makeR fm1 1 2 3
def fmA : MeshM := makeR fm2 3 2 4
def fmB : MeshM := turnR fmA 1 3
theorem fm_turn : turnR fmA 1 3 = fmB := by rw [fmB]
theorem fm_c1 : makeCode (emptyM fmP) 0 1 3 = 0 := by decide +kernel
theorem fm_c2 : makeCode fm1 1 2 3 = 0 := by decide +kernel
theorem fm_c3 : makeCode fm2 3 2 4 = 0 := by decide +kernel
theorem fm_allOk : allOk (emptyM fmP) [(0,1,3),(1,2,3),(3,2,4)] := by
 have h1 := fm_c1
 have h2 := fm_c2
 have h3 := fm_c3
 unfold fm2 at h3
 unfold fm1 at h2 h3
 simp only [allOk]
 exact ⟨h1,h2,h3,trivial⟩
theorem fm_fold : foldM (emptyM fmP) [(0,1,3),(1,2,3),(3,2,4)] = fmA := by simp only [foldM_cons,foldM_nil,fmA,fm2,fm1]
theorem fmA_P : fmA.P = fmP := (makeR_P _ _ _ _).trans ((makeR_P _ _ _ _).trans (makeR_P _ _ _ _))
theorem fmA_sound : Sound fmA := makeR_sound (makeR_sound (makeR_sound (emptyM_sound _) _ _ _) _ _ _) _ _ _
theorem fmB_P : fmB.P = fmP := (turnR_P _ _ _).trans fmA_P
theorem fmB_sound : Sound fmB := turnR_sound fmA_sound _ _
theorem fm_s13 : shB fmA 1 3 = true := by decide +kernel
theorem fm_m13 : mayB fmA 1 3 = true := by decide +kernel
theorem fm_31 : (shB fmA 3 1 && mayB fmA 3 1) = true := by decide +kernel
theorem fm_s01 : shB fmA 0 1 = false := by decide +kernel
theorem fm_p : (ptAt fmA 1,ptAt fmA 3,ptAt fmA (apD fmA 1 3),ptAt fmA (apD fmA 3 1)) = ((F4,F0),(F0,F1),(F0,F0),(F4,F1)) := by decide +kernel
theorem fm_tris : trisL fmB.ap fmB.P.length = [(0,1,2),(0,2,3),(2,4,3)] := by decide +kernel
def fo1 : MeshM := makeR (emptyM foP) 0 1 2
def foA : MeshM := makeR fo1 0 2 3
def foB : MeshM := turnR foA 0 2
theorem fo_c1 : makeCode (emptyM foP) 0 1 2 = 0 := by decide +kernel
theorem fo_c2 : makeCode fo1 0 2 3 = 0 := by decide +kernel
theorem fo_allOk : allOk (emptyM foP) [(0,1,2),(0,2,3)] := by
 have h1 := fo_c1
 have h2 := fo_c2
 unfold fo1 at h2
 simp only [allOk]
 exact ⟨h1,h2,trivial⟩
theorem fo_fold : foldM (emptyM foP) [(0,1,2),(0,2,3)] = foA := by simp only [foldM_cons,foldM_nil,foA,fo1]
theorem foA_P : foA.P = foP := (makeR_P _ _ _ _).trans (makeR_P _ _ _ _)
theorem foA_sound : Sound foA := makeR_sound (makeR_sound (emptyM_sound _) _ _ _) _ _ _
theorem foB_P : foB.P = foP := (turnR_P _ _ _).trans foA_P
theorem foB_sound : Sound foB := turnR_sound foA_sound _ _
theorem fo_s02 : shB foA 0 2 = true := by decide +kernel
theorem fo_m02 : mayB foA 0 2 = true := by decide +kernel
theorem fo_p : (ptAt foA 0,ptAt foA 2,ptAt foA (apD foA 0 2),ptAt foA (apD foA 2 0)) = ((F0,F0),(F9,F9),(F1,F2),(F9,F0)) := by decide +kernel
theorem fo_s13 : shB foB 1 3 = true := by decide +kernel
theorem fo_m13 : mayB foB 1 3 = true := by decide +kernel
theorem fo_p2 : (ptAt foB 1,ptAt foB 3,ptAt foB (apD foB 1 3),ptAt foB (apD foB 3 1)) = ((F9,F0),(F1,F2),(F0,F0),(F9,F9)) := by decide +kernel
theorem fo_tris : trisL foB.ap foB.P.length = [(0,1,3),(1,2,3)] := by decide +kernel
theorem fo_edges : edgeL foA.ap foA.P.length = [(0,1),(0,2),(0,3),(1,2),(2,3)] := by decide +kernel
def foX : MeshM := fxM foA (upE foA.fx (minI 2 0) (maxI 2 0) 7)
theorem fxM_P (M : MeshM) (f : Int → Int → Option Int) : (fxM M f).P = M.P := rfl
theorem foX_P : foX.P = foP := by unfold foX; rw [fxM_P]; exact foA_P
theorem fx_edges : edgeL foX.ap foX.P.length = [(0,1),(0,2),(0,3),(1,2),(2,3)] := by decide +kernel
def D0 : MeshM → Int → Int → Bool := fun M a b => !(shB M a b && mayB M a b)
theorem sRun_add (D : MeshM → Int → Int → Bool) (s : SS) (a : Nat) : ∀ b,sRun D s (a + b) = sRun D (sRun D s a) b
 | 0 => rfl
 | b + 1 => by show sStep D (sRun D s (a + b)) = sStep D _; rw [sRun_add D s a b]
theorem last_at {A B : List (Int × Int)} {m : Nat} (h : m < B.length) : (A ++ B.take (m + 1)).getD ((A ++ B.take (m + 1)).length - 1) (0,0) = B[m] := by
 have hl : (A ++ B.take (m + 1)).length - 1 = A.length + m := by rw [List.length_append,List.length_take]; omega
 rw [hl,List.getD_eq_getElem?_getD,List.getElem?_append_right (by omega),List.getElem?_take,if_pos (by omega),show A.length + m - A.length = m by omega,List.getElem?_eq_getElem h]
 rfl
theorem less_at {A B : List (Int × Int)} {m : Nat} (h : m < B.length) : (A ++ B.take (m + 1)).take ((A ++ B.take (m + 1)).length - 1) = A ++ B.take m := by
 have hl : (A ++ B.take (m + 1)).length - 1 = A.length + m := by rw [List.length_append,List.length_take]; omega
 rw [hl,List.take_append,List.take_of_length_le (by omega),show A.length + m - A.length = m by omega,List.take_take,Nat.min_eq_left (by omega)]
theorem q_run {M : MeshM} {A B : List (Int × Int)} (hB : ∀ e,e ∈ B → (shB M e.1 e.2 && mayB M e.1 e.2) = false) (S : List (Int × Int)) (n : Nat) : ∀ k,k ≤ B.length → sRun D0 ⟨M,A ++ B,S,n⟩ k = ⟨M,A ++ B.take (B.length - k),S,n⟩
 | 0,_ => by show (⟨M,A ++ B,S,n⟩ : SS) = _; rw [Nat.sub_zero,List.take_length]
 | k + 1,hk => by
  show sStep D0 (sRun D0 _ k) = _
  rw [q_run hB S n k (by omega)]
  obtain ⟨m,hm⟩ : ∃ m,B.length - k = m + 1 := ⟨B.length - k - 1,by omega⟩
  have hmB : m < B.length := by omega
  have e2 : B.length - (k + 1) = m := by omega
  rw [hm,e2]
  have he : (⟨M,A ++ B.take (m + 1),S,n⟩ : SS).e = B[m] := last_at hmB
  have hq := hB _ (List.getElem_mem hmB)
  rw [sStep_skip (by rw [he]; unfold D0; rw [Bool.not_not]; show (shB M B[m].1 B[m].2 && (shB M B[m].1 B[m].2 && mayB M B[m].1 B[m].2)) = false; rw [hq,Bool.and_false])]
  show (⟨M,_,S,n⟩ : SS) = _
  rw [less_at hmB]
structure OkS (L S : List (Int × Int)) (n : Nat) : Prop where
 ll : L.length ≤ 1000000
 sl : S.length ≤ 1000000
 nn : n ≤ 1000000
 sm : ∀ e,e ∈ L → i64ok e.1 ∧ i64ok e.2
theorem goodS_no {s : SS} (hne : s.L ≠ []) (he : i64ok s.e.1 ∧ i64ok s.e.2) (h1 : s.L.length ≤ 1000000) (h2 : s.S.length ≤ 1000000) (h3 : s.n ≤ 1000000) (hs : Sound s.M) (h64 : ∀ p,p ∈ s.M.P → pt64 p) (hl : s.M.P.length ≤ 1048576) (hq : (shB s.M s.e.1 s.e.2 && mayB s.M s.e.1 s.e.2) = false) : GoodS D0 s := by
 refine ⟨hne,he.1,he.2,h1,h2,h3,fun w mb n F h => ?_,fun h4 h5 => ?_⟩
 ·have := del_no h h64 hs hl he.1 he.2 hq
  unfold D0
  rw [hq]
  exact this
 ·unfold D0 at h5
  rw [hq] at h5
  cases h5
theorem goodS_yes {s : SS} (hne : s.L ≠ []) (he : i64ok s.e.1 ∧ i64ok s.e.2) (h1 : s.L.length ≤ 1000000) (h2 : s.S.length ≤ 1000000) (h3 : s.n ≤ 1000000) (hs : Sound s.M) (h64 : ∀ p,p ∈ s.M.P → pt64 p) (hl : s.M.P.length ≤ 1048576) (hq1 : shB s.M s.e.1 s.e.2 = true) (hq2 : mayB s.M s.e.1 s.e.2 = true)
  (hW : ∀ w,Calls Tryz.prog 50 #[V (ptAt s.M s.e.1),V (ptAt s.M s.e.2),V (ptAt s.M (apD s.M s.e.1 s.e.2)),V (ptAt s.M (apD s.M s.e.2 s.e.1))] w fun r w' => r = .returned (.bool true) ∧ Below w.heap.size w w') : GoodS D0 s := by
 refine ⟨hne,he.1,he.2,h1,h2,h3,fun w mb n F h => ?_,fun h4 h5 => hq2⟩
 have := del_yes h h64 hs hl he.1 he.2 hq1 hq2 true hW
 unfold D0
 rw [hq1,hq2]
 exact this
theorem q_good {M : MeshM} {A B S : List (Int × Int)} {n : Nat} (hB : ∀ e,e ∈ B → (shB M e.1 e.2 && mayB M e.1 e.2) = false) (hs : Sound M) (h64 : ∀ p,p ∈ M.P → pt64 p) (hl : M.P.length ≤ 1048576) (hok : OkS (A ++ B) S n) (k : Nat) (hk : k < B.length) : GoodS D0 (sRun D0 ⟨M,A ++ B,S,n⟩ k) := by
 rw [q_run hB S n k (by omega)]
 obtain ⟨m,hm⟩ : ∃ m,B.length - k = m + 1 := ⟨B.length - k - 1,by omega⟩
 have hmB : m < B.length := by omega
 rw [hm]
 have he : (⟨M,A ++ B.take (m + 1),S,n⟩ : SS).e = B[m] := last_at hmB
 have hmem := List.getElem_mem hmB
 have hll := hok.ll
 refine goodS_no ?_ ?_ ?_ hok.sl hok.nn hs h64 hl ?_
 ·intro e
  have := congrArg List.length e
  simp only [List.length_append,List.length_take,List.length_nil] at this
  omega
 ·rw [he]; exact hok.sm _ (List.mem_append_right _ hmem)
 ·show (A ++ B.take (m + 1)).length ≤ 1000000
  rw [List.length_append] at hll ⊢
  rw [List.length_take]
  omega
 ·rw [he]; exact hB _ hmem
theorem q_turn {M : MeshM} {B : List (Int × Int)} {n : Nat} (hB : ∀ e,e ∈ B → (shB M e.1 e.2 && mayB M e.1 e.2) = false) (hs : Sound M) (h64 : ∀ p,p ∈ M.P → pt64 p) (hl : M.P.length ≤ 1048576) (hok : OkS B B 0) (hn : n ≤ 100000) : GoodT D0 B.length ⟨M,B,n⟩ ∧ sRun D0 (Stg.s0 ⟨M,B,n⟩) B.length = ⟨M,[],B,0⟩ := by
 have hr : sRun D0 (Stg.s0 ⟨M,B,n⟩) B.length = ⟨M,[],B,0⟩ := by
  have := q_run (A := []) hB B 0 B.length (Nat.le_refl _)
  rw [Nat.sub_self] at this
  exact this
 refine ⟨⟨hok.ll,fun k hk => q_good (A := []) hB hs h64 hl hok k hk,by rw [hr],by rw [hr]; exact hn⟩,hr⟩
theorem sm_of {l : List (Int × Int)} (h : l.all (fun e => decide (-1000 ≤ e.1) && decide (e.1 ≤ 1000) && decide (-1000 ≤ e.2) && decide (e.2 ≤ 1000)) = true) : ∀ e,e ∈ l → i64ok e.1 ∧ i64ok e.2 := by
 intro e he
 have := List.all_eq_true.1 h e he
 simp only [Bool.and_eq_true,decide_eq_true_eq] at this
 unfold i64ok
 omega
theorem quiet_of {M : MeshM} {l : List (Int × Int)} (h : l.all (fun e => !(shB M e.1 e.2 && mayB M e.1 e.2)) = true) : ∀ e,e ∈ l → (shB M e.1 e.2 && mayB M e.1 e.2) = false := by
 intro e he
 have h1 : (!(shB M e.1 e.2 && mayB M e.1 e.2)) = true := List.all_eq_true.1 h e he
 cases h2 : (shB M e.1 e.2 && mayB M e.1 e.2)
 ·rfl
 ·rw [h2] at h1; cases h1
theorem fx_quiet : [((0,1) : Int × Int),(0,2),(0,3),(1,2),(2,3)].all (fun e => !(shB foX e.1 e.2 && mayB foX e.1 e.2)) = true := by decide +kernel
def foL : List (Int × Int) := [(0,1),(0,2),(0,3),(1,2),(2,3)]
def foL9 : List (Int × Int) := [(0,1),(0,2),(0,3),(1,2),(2,3),(0,1),(1,2),(2,3),(3,0)]
theorem fo_q1 : [((0,3) : Int × Int),(1,2),(2,3)].all (fun e => !(shB foA e.1 e.2 && mayB foA e.1 e.2)) = true := by decide +kernel
theorem fo_q2 : [((0,1) : Int × Int),(0,1),(1,2),(2,3),(3,0)].all (fun e => !(shB foB e.1 e.2 && mayB foB e.1 e.2)) = true := by decide +kernel
theorem fo_q3 : foL9.all (fun e => !(shB foB e.1 e.2 && mayB foB e.1 e.2)) = true := by decide +kernel
theorem fo_four : four foA 0 2 = [(0,1),(1,2),(2,3),(3,0)] := by decide +kernel
theorem fo_run (M N : MeshM) (h1 : ∀ e,e ∈ [((0,3) : Int × Int),(1,2),(2,3)] → (shB M e.1 e.2 && mayB M e.1 e.2) = false) (h2 : shB M 0 2 = true) (h3 : mayB M 0 2 = true) (h4 : four M 0 2 = [(0,1),(1,2),(2,3),(3,0)]) (h5 : turnR M 0 2 = N)
  (h6 : ∀ e,e ∈ [((0,1) : Int × Int),(0,1),(1,2),(2,3),(3,0)] → (shB N e.1 e.2 && mayB N e.1 e.2) = false) :
  sRun D0 ⟨M,foL,foL,0⟩ 3 = ⟨M,[(0,1),(0,2)],foL,0⟩ ∧ sRun D0 ⟨M,foL,foL,0⟩ 4 = ⟨N,[] ++ [(0,1),(0,1),(1,2),(2,3),(3,0)],foL9,1⟩ ∧ sRun D0 ⟨M,foL,foL,0⟩ 9 = ⟨N,[],foL9,1⟩ := by
 have r3 : sRun D0 ⟨M,foL,foL,0⟩ 3 = ⟨M,[(0,1),(0,2)],foL,0⟩ := q_run (A := [(0,1),(0,2)]) (B := [(0,3),(1,2),(2,3)]) h1 foL 0 3 (by decide)
 have r4 : sRun D0 ⟨M,foL,foL,0⟩ 4 = ⟨N,[] ++ [(0,1),(0,1),(1,2),(2,3),(3,0)],foL9,1⟩ := by
  show sStep D0 (sRun D0 _ 3) = _
  rw [r3,sStep_flip (show (shB M 0 2 && !D0 M 0 2) = true by unfold D0; rw [h2,h3]; rfl)]
  show (⟨turnR M 0 2,[(0,1)] ++ four M 0 2,foL ++ four M 0 2,0 + 1⟩ : SS) = _
  rw [h4,h5]
  rfl
 refine ⟨r3,r4,?_⟩
 rw [show (9 : Nat) = 4 + 5 from rfl,sRun_add,r4]
 exact q_run (A := []) h6 foL9 1 5 (by decide)
theorem fo_turn : turnR foA 0 2 = foB := by rw [foB]
theorem fo_good (M N : MeshM) (h1 : ∀ e,e ∈ [((0,3) : Int × Int),(1,2),(2,3)] → (shB M e.1 e.2 && mayB M e.1 e.2) = false) (h2 : shB M 0 2 = true) (h3 : mayB M 0 2 = true) (h4 : four M 0 2 = [(0,1),(1,2),(2,3),(3,0)]) (h5 : turnR M 0 2 = N)
  (h6 : ∀ e,e ∈ [((0,1) : Int × Int),(0,1),(1,2),(2,3),(3,0)] → (shB N e.1 e.2 && mayB N e.1 e.2) = false) (hs : Sound M) (h64 : ∀ p,p ∈ M.P → pt64 p) (hl : M.P.length ≤ 1048576) (hs' : Sound N) (h64' : ∀ p,p ∈ N.P → pt64 p) (hl' : N.P.length ≤ 1048576)
  (hW : ∀ w,Calls Tryz.prog 50 #[V (ptAt M 0),V (ptAt M 2),V (ptAt M (apD M 0 2)),V (ptAt M (apD M 2 0))] w fun r w' => r = .returned (.bool true) ∧ Below w.heap.size w w') :
  GoodT D0 9 ⟨M,foL,0⟩ := by
 obtain ⟨r3,r4,r9⟩ := fo_run M N h1 h2 h3 h4 h5 h6
 refine ⟨(by decide : foL.length ≤ 1000000),fun k hk => ?_,?_,?_⟩
 ·show GoodS D0 (sRun D0 ⟨M,foL,foL,0⟩ k)
  rcases (show k < 3 ∨ k = 3 ∨ 3 < k by omega) with h | rfl | h
  ·exact q_good (A := [(0,1),(0,2)]) (B := [(0,3),(1,2),(2,3)]) h1 hs h64 hl ⟨by decide,by decide,by decide,sm_of (by decide)⟩ k h
  ·rw [r3]
   exact goodS_yes (s := ⟨M,[(0,1),(0,2)],foL,0⟩) (by simp) (show i64ok 0 ∧ i64ok 2 from ⟨by unfold i64ok; decide,by unfold i64ok; decide⟩) (show [((0,1) : Int × Int),(0,2)].length ≤ 1000000 by decide) (show foL.length ≤ 1000000 by decide) (show 0 ≤ 1000000 by decide) hs h64 hl h2 h3 hW
  ·obtain ⟨m,rfl⟩ : ∃ m,k = 4 + m := ⟨k - 4,by omega⟩
   rw [sRun_add,r4]
   exact q_good (A := []) (B := [(0,1),(0,1),(1,2),(2,3),(3,0)]) h6 hs' h64' hl' ⟨by decide,by decide,by decide,sm_of (by decide)⟩ m (by simp only [List.length_cons,List.length_nil]; omega)
 ·show (sRun D0 ⟨M,foL,foL,0⟩ 9).L = []
  rw [r9]
 ·show 0 + (sRun D0 ⟨M,foL,foL,0⟩ 9).n ≤ 100000
  rw [r9]; show 0 + 1 ≤ 100000; decide
end Go.Proofs.YtbagikgpgdlkcaaGreatDoor
