/- Part of the proof. No conditions. -/
import Derived.Test.YtbagikgpgdlkcaaGreatDoorZH
set_option linter.all false
set_option maxHeartbeats 8000000
set_option maxRecDepth 100000
namespace Go.Proofs.YtbagikgpgdlkcaaGreatDoor
open Go.RowKit Tvf Go.Maps Go.WideMaps
theorem num_field0 (s e : Int) (d : Option Addr) (l c : Nat) (W : World) : (Instr.field 124 (.agg #[.int .i64 s,.slice d l c,.int .i64 e]) 0).run Tryz.prog W = .ok (.int .i64 s) W := by kernel_rfl
theorem NumK.neg {w : World} {s ee : Int} {ad : Option Addr} {l c e : Nat} {a : Int} (h : NumK w (.agg #[.int .i64 s,.slice ad l c,.int .i64 ee]) e a) : NumK w (.agg #[.int .i64 (wrap64 (-s)),.slice ad l c,.int .i64 ee]) e (-a) := by
 obtain ⟨x,⟨ad', ca,he,hd,hc⟩,hw,hr,rfl⟩ := h
 unfold NumA at he
 simp only [Value.agg.injEq,Array.mk.injEq,List.cons.injEq,Value.int.injEq,Value.slice.injEq,true_and,and_true] at he
 obtain ⟨rfl,⟨rfl,rfl,rfl⟩,rfl⟩ := he
 have hs : wrap64 (-x.S) = -x.S := by have := hw.sg; unfold wrap64; omega
 rw [hs]
 exact ⟨negP x,⟨ad,c,rfl,hd,hc⟩,negP_wf hw,negP_rng hr,negP_nv x⟩
theorem num0K (w : World) (e : Nat) : NumK w (.agg #[.int .i64 0,.slice none 0 0,.int .i64 0]) e 0 := ⟨num0,num0_v w,num0_wf,num0_rng e,num0_nv⟩
theorem mulK {w : World} {u v : Value} {e1 e2 : Nat} {a b : Int} (hu : NumK w u e1 a) (hv : NumK w v e2 b) (he : e1 + e2 ≤ 190) :
  Calls Tryz.prog 123 #[u,v] w fun r w' => ∃ z k,r = .returned z ∧ NumK w' z (e1 + e2) k ∧ k * (BB ^ 200 : Nat) = a * b ∧ Below w.heap.size w w' := by
 obtain ⟨x,⟨ad,ca,rfl,hdx,hca⟩,hwx,hrx,rfl⟩ := hu
 obtain ⟨y,⟨bd,cb,rfl,hdy,hcb⟩,hwy,hry,rfl⟩ := hv
 by_cases hx0 : x.S = 0
 ·refine (nmul_zero (.inl hx0)).mono ?_
  rintro r w' ⟨rfl,hb⟩
  exact ⟨_,0,rfl,num0K _ _,by rw [nv_s0 hx0]; simp,hb⟩
 ·by_cases hy0 : y.S = 0
  ·refine (nmul_zero (.inr ⟨hx0,hy0⟩)).mono ?_
   rintro r w' ⟨rfl,hb⟩
   exact ⟨_,0,rfl,num0K _ _,by rw [nv_s0 hy0]; simp,hb⟩
  ·refine (nmul_main hdx hdy he hrx hry hwx hwy hx0 hy0).mono ?_
   rintro r w' ⟨z,v,rfl,h1,h2,h3,h4,h5⟩
   exact ⟨v,nv z,rfl,⟨z,h1,h2,h4,rfl⟩,h3,h5⟩
theorem cmpK {w : World} {u v : Value} {e : Nat} {a b : Int} (hu : NumK w u e a) (hv : NumK w v e b) (he : e + 1 ≤ 190) :
  Calls Tryz.prog 138 #[u,v] w fun r w' => r = .returned (.int .i64 (sgnI (a - b))) ∧ Hid (Below w.heap.size w w') := by
 have HU := Lib.hid hu
 have HV := Lib.hid hv
 obtain ⟨s1,e1,ad,l1,c1,rfl,-⟩ := hu.agg
 obtain ⟨s2,e2,bd,l2,c2,rfl,-⟩ := hv.agg
 have hb2 : ∀ o o', Below w.heap.size w ((w.alloc o).alloc o') := fun o o' => ((Below.refl _ _).alloc (Nat.le_refl _) _).alloc (by simp) _
 have HS : Hid (∀ o o', Calls Tryz.prog 125 #[.agg #[.int .i64 s1,.slice ad l1 c1,.int .i64 e1],.agg #[.int .i64 s2,.slice bd l2 c2,.int .i64 e2]] ((w.alloc o).alloc o') fun r w' => ∃ (ee : Int) (dd : Option Addr) (l c : Nat),r = .returned (.agg #[.int .i64 (sgnI (a - b)),.slice dd l c,.int .i64 ee]) ∧ Hid (Below w.heap.size w w')) := fun o o' => by
  refine (subK (HU.out.below (hb2 o o')) (HV.out.below (hb2 o o')) he).mono ?_
  rintro r w' ⟨z,rfl,hz,hb'⟩
  obtain ⟨s,ee,dd,l,c,rfl,hs⟩ := hz.agg
  exact ⟨ee,dd,l,c,by rw [hs],(hb2 o o').trans (hb'.out.mono (hb2 o o').size)⟩
 have hf := fun e d l c W => num_field0 (sgnI (a - b)) e d l c W
 clear hu hv
 generalize sgnI (a - b) = sg at *
 go_enter Tryz.func138,Tryz.ntmps138
 go_wp2_with (go_at_call 125; (with_reducible refine (HS.out _ _).mono ?_); rintro r w1 ⟨ee,dd,l,c,rfl,hb⟩)
 go_ret
 exact ⟨rfl,hb.out⟩
theorem absK {w : World} {u : Value} {e : Nat} {a : Int} (hu : NumK w u e a) :
  Calls Tryz.prog 139 #[u] w fun r w' => ∃ z,r = .returned z ∧ Hid (NumK w' z e (a.natAbs : Int)) ∧ Hid (Below w.heap.size w w') := by
 have HU := Lib.hid hu
 obtain ⟨s1,e1,ad,l1,c1,rfl,hs⟩ := hu.agg
 clear hu
 by_cases ha : a < 0
 ·have h1 : s1 < 0 := by rw [hs]; unfold sgnI; split <;> omega
  have hB : Hid (∀ o1 o2 o3 o4,Below w.heap.size w ((((w.alloc o1).alloc o2).alloc o3).alloc o4)) := fun o1 o2 o3 o4 => ((((Below.refl _ w).alloc (Nat.le_refl _) o1).alloc (by simp) o2).alloc (by simp; omega) o3).alloc (by simp; omega) o4
  go_enter Tryz.func139,Tryz.ntmps139
  clear hs
  go_wp2
  go_returns
  refine ⟨_,rfl,?_,hB.out _ _ _ _⟩
  have e : ((a.natAbs : Nat) : Int) = -a := by omega
  rw [e]
  exact HU.out.neg.below (hB.out _ _ _ _)
 ·have h1 : ¬s1 < 0 := by rw [hs]; unfold sgnI; split <;> (try split) <;> omega
  have hB : Hid (∀ o1 o2,Below w.heap.size w ((w.alloc o1).alloc o2)) := fun o1 o2 => ((Below.refl _ w).alloc (Nat.le_refl _) o1).alloc (by simp) o2
  clear hs
  go_enter Tryz.func139,Tryz.ntmps139
  go_wp2
  go_returns
  refine ⟨_,rfl,?_,hB.out _ _⟩
  have e : ((a.natAbs : Nat) : Int) = a := by omega
  rw [e]
  exact HU.out.below (hB.out _ _)
structure PwI (n0 n : Nat) (l : List Nat) : Prop where
 sum : n0 = mag l + n * BB ^ l.length
 dig : ∀ d,d ∈ l → d < BB
theorem PwI.start (n : Nat) : PwI n n [] := ⟨by simp [mag],fun _ h => absurd h (by simp)⟩
theorem PwI.step {n0 n : Nat} {l : List Nat} (h : PwI n0 n l) : PwI n0 (n / BB) (l ++ [n % BB]) := by
 refine ⟨?_,fun z hz => ?_⟩
 ·rw [mag_append,List.length_append]
  simp only [mag,List.length_cons,List.length_nil,Nat.zero_add,Nat.mul_zero,Nat.add_zero]
  rw [Nat.pow_succ,h.sum]
  have h1 := Nat.mod_add_div n BB
  generalize BB ^ l.length = p at *
  have : n * p = p * (n % BB) + n / BB * (p * BB) := by
   rw [Nat.mul_comm p BB,← Nat.mul_assoc,Nat.mul_comm (n / BB) BB,Nat.mul_comm p (n % BB),← Nat.add_mul,h1]
  omega
 ·rcases List.mem_append.1 hz with hz | hz
  ·exact h.dig z hz
  ·simp only [List.mem_cons,List.not_mem_nil,or_false] at hz
   rw [hz]; exact Nat.mod_lt _ BB_pos
theorem PwI.len {n0 n : Nat} {l : List Nat} (h : PwI n0 n l) (h0 : n0 < 2 ^ 64) (hn : 0 < n) : l.length ≤ 2 := by
 apply Classical.byContradiction
 intro hc
 have h1 : BB ^ 3 ≤ BB ^ l.length := Nat.pow_le_pow_right BB_pos (by omega)
 have h2 : 1 * BB ^ l.length ≤ n * BB ^ l.length := Nat.mul_le_mul_right _ hn
 have h3 := h.sum
 rw [show BB ^ 3 = 4722366482869645213696 by decide] at h1
 omega
structure PwC (l P : List Nat) (f i c : Nat) : Prop where
 len : P.length = l.length
 dig : ∀ d,d ∈ P → d < BB
 cr : c < BB
 sum : mag (P.take i) + c * BB ^ i = mag (l.take i) * f
 rest : ∀ j,i ≤ j → P.getD j 0 = l.getD j 0
theorem PwC.start {l : List Nat} (f : Nat) (h : ∀ d,d ∈ l → d < BB) : PwC l l f 0 0 := ⟨rfl,h,BB_pos,by simp [mag],fun _ _ => rfl⟩
theorem getD_set_ne {l : List Nat} {i j d : Nat} (h : i ≠ j) : (l.set i d).getD j 0 = l.getD j 0 := by
 rw [List.getD_eq_getElem?_getD,List.getElem?_set_ne h,← List.getD_eq_getElem?_getD]
theorem getD_set_self {l : List Nat} {i d : Nat} (h : i < l.length) : (l.set i d).getD i 0 = d := by
 rw [List.getD_eq_getElem?_getD,List.getElem?_set_self h]; rfl
theorem take_set_same {l : List Nat} {i d : Nat} : (l.set i d).take i = l.take i := by
 apply List.ext_getElem?
 intro j
 rw [List.getElem?_take,List.getElem?_take]
 split
 ·rw [List.getElem?_set_ne (by omega)]
 ·rfl
theorem PwC.step {l P : List Nat} {f i c : Nat} (h : PwC l P f i c) (hi : i < l.length) (hl : ∀ d,d ∈ l → d < BB) (hf : f ≤ BB / 2) :
  PwC l (P.set i ((P.getD i 0 * f + c) % BB)) f (i + 1) ((P.getD i 0 * f + c) / BB) ∧ P.getD i 0 * f + c < 281474976710656 := by
 have e : P.getD i 0 = l.getD i 0 := h.rest i (Nat.le_refl _)
 have hd : l.getD i 0 < BB := by
  rw [List.getD_eq_getElem?_getD,List.getElem?_eq_getElem hi]; exact hl _ (List.getElem_mem hi)
 have hs := h.sum
 have hc := h.cr
 have hiP : i < P.length := by rw [h.len]; exact hi
 rw [e]
 have hm : l.getD i 0 * f ≤ (BB - 1) * (BB / 2) := Nat.mul_le_mul (by omega) hf
 obtain ⟨x,hx⟩ : ∃ x,l.getD i 0 = x := ⟨_,rfl⟩
 rw [hx] at hd hm ⊢
 obtain ⟨v,hv⟩ : ∃ v,x * f + c = v := ⟨_,rfl⟩
 rw [hv]
 have hvb : v < 281474976710656 := by rw [BB_eq] at hm hc; omega
 have hvc : v / BB < BB := by rw [BB_eq] at hm hc ⊢; omega
 refine ⟨⟨by rw [List.length_set]; exact h.len,fun z hz => ?_,hvc,?_,fun j hj => ?_⟩,hvb⟩
 ·rcases List.mem_or_eq_of_mem_set hz with hz | hz
  ·exact h.dig z hz
  ·rw [hz]; exact Nat.mod_lt _ BB_pos
 ·rw [mag_take_succ (by rw [List.length_set]; exact hiP),take_set_same,getD_set_self hiP,mag_take_succ hi]
  rw [hx]
  rw [Nat.pow_succ]
  have h1 := Nat.mod_add_div v BB
  generalize BB ^ i = p at *
  have h2 : v * p = v % BB * p + v / BB * (p * BB) := by
   rw [Nat.mul_comm p BB,← Nat.mul_assoc,Nat.mul_comm (v / BB) BB,← Nat.add_mul,h1]
  have h3 : v * p = x * f * p + c * p := by rw [← hv,Nat.add_mul]
  have h4 : (mag (l.take i) + x * p) * f = mag (l.take i) * f + x * f * p := by
   rw [Nat.add_mul,Nat.mul_assoc x p f,Nat.mul_comm p f,← Nat.mul_assoc]
  omega
 ·rw [getD_set_ne (by omega)]
  exact h.rest j (by omega)
theorem power_val {n0 f c s : Nat} {l P : List Nat} {E k : Int} (hi : PwI n0 0 l) (hc : PwC l P f l.length c) (hf : f = 2 ^ s) (hE : -200 ≤ E) (hk : k = 24 * E + s) : nv ⟨1,P ++ [c],E⟩ = (n0 : Int) * 2 ^ (k + 4800).toNat := by
 have h1 := hi.sum
 rw [Nat.zero_mul,Nat.add_zero] at h1
 have h2 := hc.sum
 rw [List.take_of_length_le (by rw [hc.len]; exact Nat.le_refl _),List.take_of_length_le (Nat.le_refl _),← h1] at h2
 have h3 : mag (P ++ [c]) = n0 * f := by
  rw [mag_append,hc.len]
  simp only [mag,Nat.mul_zero,Nat.add_zero]
  rw [Nat.mul_comm]; omega
 have hb : BB = 2 ^ 24 := by decide
 show 1 * ((mag (P ++ [c]) * BB ^ placeE E : Nat) : Int) = _
 rw [h3,hf,hb,← Nat.pow_mul,Nat.mul_assoc,← Nat.pow_add,Int.one_mul,Int.natCast_mul,Int.natCast_pow]
 unfold placeE
 rw [show s + 24 * (E + 200).toNat = (k + 4800).toNat by omega]
 rfl
structure PwM (W4 : World) (p : Nat) (E : Int) (W : World) (l : List Nat) (v : Value) : Prop where
 own : W.ownsRow (p + 1) 2 1 v l.length (dC l)
 box : Box3 124 W p (.int .i64 1) v (.int .i64 E)
 low : Below p W4 W
theorem PwM.push {W4 : World} {p : Nat} {E : Int} {wr w2 : World} {l : List Nat} {v v' : Value} {d : Nat} {o : Obj} (h : PwM W4 p E wr l v)
  (hown : w2.ownsRow (p + 1) 2 1 v' (l.length + 1) (dC l ++ [.int .i64 (d : Nat)])) (hg : (wr.alloc o).grownBy w2 v.ownBlock) :
  PwM W4 p E (w2.setCell ⟨p,1,none⟩ v') (l ++ [d]) v' ∧ Box3 124 w2 p (.int .i64 1) v (.int .i64 E) := by
 have hne : v.ownBlock ≠ some p := fun e => by have := (h.own.lt p e).1; omega
 have hbox := (h.box.al o).grown hg hne
 have hlt := h.box.lt
 refine ⟨⟨?_,hbox.set1 v', ?_⟩,hbox⟩
 ·rw [List.length_append,dC_snoc]
  exact ownsRow_same hown (fun g hg' => Below.heap_setCell _ _ _ _ (by have := (hown.lt g hg').1; show g ≠ p; omega))
 ·refine Below.setCell (p := ⟨p,1,none⟩) ?_ (Nat.le_refl p) _
  refine (h.low.alloc (Nat.le_of_lt hlt) o).grown hg (by simp; omega) (fun j hj => ?_)
  have := (h.own.lt j hj).1
  omega
theorem dC_setL (l : List Nat) (j d : Nat) : (dC l).set j (.int .i64 (d : Nat)) = dC (l.set j d) := by simp [dC,List.map_set]
theorem PwM.set {W4 : World} {p : Nat} {E : Int} {W : World} {l : List Nat} {g n cap : Nat} (h : PwM W4 p E W l (.slice (some ⟨g,0,none⟩) n cap)) (hn : n = l.length) (j d : Nat) :
  PwM W4 p E (W.setCell ⟨g,j,none⟩ (.int .i64 (d : Nat))) (l.set j d) (.slice (some ⟨g,0,none⟩) n cap) := by
 have hg := (h.own.lt g rfl).1
 subst hn
 have h1 := (h.own.stored j (.int .i64 (d : Nat))).1
 rw [dC_setL] at h1
 exact ⟨by rw [List.length_set]; exact h1,h.box.far (by show p ≠ g; omega) _,h.low.setCell (p := ⟨g,j,none⟩) (by show p ≤ g; omega) _⟩
theorem wrap_bb {n : Nat} (h : n < 2 ^ 64) : IntKind.u64.wrap ((n : Int) / 16777216) = ((n / BB : Nat) : Int) := by
 rw [IntKind.wrap_u64,BB_eq]; omega
theorem PwI.le {n0 n : Nat} {l : List Nat} (h : PwI n0 n l) : n ≤ n0 := by
 have h1 : n * 1 ≤ n * BB ^ l.length := Nat.mul_le_mul_left _ (Nat.pow_pos BB_pos)
 have := h.sum
 omega
theorem power_walk {n0 : Nat} {k0 : Int} {e : Nat} {w : World} (hn : n0 < 2 ^ 64) (hk1 : -(24 * e : Int) ≤ k0) (hk2 : k0 + 96 ≤ 24 * e) (he : e ≤ 190) :
  Calls Tryz.prog 140 #[.int .u64 n0,.int .i64 k0] w fun r w' => ∃ z,r = .returned z ∧ NumK w' z e ((n0 : Int) * 2 ^ (k0 + 4800).toNat) ∧ Below w.heap.size w w' := by
 have HE := Lib.hid he
 have HK : Hid (-(24 * e : Int) ≤ k0 ∧ k0 + 96 ≤ 24 * e) := ⟨hk1,hk2⟩
 have HN := Lib.hid hn
 obtain ⟨i0,hi,hz0,hz1,hz2⟩ := info_parts infoI64
 have HR0 : Hid (Box3 124 (w.alloc (.cells #[.int .i64 0,.slice none 0 0,.int .i64 0] 124)) w.heap.size (.int .i64 0) (.slice none 0 0) (.int .i64 0)) := Box3.new _ _ _ _ _
 have hs1 : (w.alloc (.cells #[.int .i64 0,.slice none 0 0,.int .i64 0] 124)).heap.size = w.heap.size + 1 := by simp
 have HBW : Hid (Below w.heap.size w (w.alloc (.cells #[.int .i64 0,.slice none 0 0,.int .i64 0] 124))) := (Below.refl _ _).alloc (Nat.le_refl _) _
 clear he hk1 hk2 hn
 go_enter Tryz.func140,Tryz.ntmps140
 go_wp2
 go_loop [1,5] (fun s1 s5 => ∃ k e' : Int,k0 = 24 * e' + k ∧ -5000 ≤ k ∧ k ≤ 5000 ∧ s1 = .int .i64 k ∧ s5 = .int .i64 e') (fun s1 _ => (24 - intOf s1).toNat)
 case atStart => exact ⟨k0,0,by omega,by have := HK.out; have := HE.out; omega,by have := HK.out; have := HE.out; omega,rfl,rfl⟩
 case round =>
  obtain ⟨k,e', hke,hkl,hkh,rfl,rfl⟩ := hrel
  have hb := HK.out
  have hb2 := HE.out
  by_cases hk : k < 0
  ·have hw1 : wrap64 (k + 24) = k + 24 := by unfold wrap64; omega
   have hw2 : wrap64 (e' - 1) = e' - 1 := by unfold wrap64; omega
   go_wp2
   go_round
   case rel => exact ⟨k + 24,e' - 1,by omega,by omega,by omega,rfl,rfl⟩
   case measure => simp only [intOf]; omega
  ·clear hb hb2
   go_wp2
   go_loop [1,5] (fun s1 s5 => ∃ k e' : Int,k0 = 24 * e' + k ∧ 0 ≤ k ∧ k ≤ 5000 ∧ s1 = .int .i64 k ∧ s5 = .int .i64 e') (fun s1 _ => (intOf s1).toNat)
   case atStart => exact ⟨k,e', hke,by omega,hkh,rfl,rfl⟩
   case round =>
    clear hke hkl hkh hk
    obtain ⟨k,e', hke,hkl,hkh,rfl,rfl⟩ := hrel
    have hb := HK.out
    have hb2 := HE.out
    by_cases hk : 24 ≤ k
    ·have hw1 : wrap64 (k - 24) = k - 24 := by unfold wrap64; omega
     have hw2 : wrap64 (e' + 1) = e' + 1 := by unfold wrap64; omega
     go_wp2
     go_round
     case rel => exact ⟨k - 24,e' + 1,by omega,by omega,by omega,rfl,rfl⟩
     case measure => simp only [intOf]; omega
    ·obtain ⟨s,rfl⟩ : ∃ s : Nat,k = s := ⟨k.toNat,by omega⟩
     have HS : Hid (s < 24 ∧ k0 = 24 * e' + s ∧ -(e : Int) ≤ e' ∧ e' + 4 ≤ e) := by unfold Hid; omega
     clear hb hb2 hke hkl hkh
     go_wp2
     clear hk
     have hs2 : ((w.alloc (.cells #[.int .i64 0,.slice none 0 0,.int .i64 0] 124)).alloc (.cells #[.int .i64 1,.slice none 0 0,.int .i64 e'] 124)).heap.size = w.heap.size + 1 + 1 := by simp
     have HST : Hid (PwM (w.alloc (.cells #[.int .i64 0,.slice none 0 0,.int .i64 0] 124)) (w.heap.size + 1) e' ((w.alloc (.cells #[.int .i64 0,.slice none 0 0,.int .i64 0] 124)).alloc (.cells #[.int .i64 1,.slice none 0 0,.int .i64 e'] 124)) [] (.slice none 0 0)) :=
      ⟨World.ownsRow_nil _ _ _ _,by rw [← hs1]; exact Box3.new _ _ _ _ _,by rw [← hs1]; exact (Below.refl _ _).alloc (Nat.le_refl _) _⟩
     have HP0 : Hid (w.heap.size < w.heap.size + 1) := by unfold Hid; omega
     generalize w.heap.size + 1 = p at *
     generalize ((w.alloc (.cells #[.int .i64 0,.slice none 0 0,.int .i64 0] 124)).alloc (.cells #[.int .i64 1,.slice none 0 0,.int .i64 e'] 124)) = W4 at *
     generalize (w.alloc (.cells #[.int .i64 0,.slice none 0 0,.int .i64 0] 124)) = W1 at *
     go_loopw [0] (fun s0 wr => ∃ (n : Nat) (l : List Nat) (v : Value),s0 = .int .u64 n ∧ Hid (PwI n0 n l) ∧ Hid (PwM W1 p e' wr l v) ∧ Hid (l.length ≤ 3)) (fun s0 _ => (intOf s0).toNat)
     case atStart => exact ⟨n0,[],_,rfl,PwI.start _,HST.out,Nat.zero_le 3⟩
     case round =>
      obtain ⟨n,l,v,rfl,HI,HM,hll⟩ := hrel
      have hlt : w.heap.size < p := HP0.out
      by_cases hn0 : n = 0
      ·subst hn0
       have hz : ¬(0 : Int) < ((0 : Nat) : Int) := by omega
       go_wp2
       go_loop [7,8] (fun s7 s8 => ∃ i : Nat,i ≤ s ∧ s7 = .int .i64 ((2 ^ i : Nat) : Int) ∧ s8 = .int .i64 i) (fun _ s8 => s - (intOf s8).toNat)
       case atStart => exact ⟨0,Nat.zero_le _,rfl,rfl⟩
       case round =>
        obtain ⟨i,his,rfl,rfl⟩ := hrel
        have hs24 := HS.out.1
        have hpw : 2 ^ i ≤ 2 ^ 23 := Nat.pow_le_pow_right (by omega) (by omega)
        by_cases hlt2 : i < s
        ·have hltz : (i : Int) < (s : Int) := by omega
         have HP2 : Hid (2 ^ (i + 1) = 2 ^ i * 2) := Nat.pow_succ ..
         obtain ⟨z,hz2⟩ : ∃ z,Hid (2 ^ i = z) := ⟨2 ^ i,rfl⟩
         rw [hz2.out] at hpw HP2 ⊢
         have hw2 : wrap64 ((z : Int) * 2) = ((z * 2 : Nat) : Int) := by unfold wrap64; omega
         go_wp2
         go_round
         case rel => exact ⟨i + 1,by omega,by rw [HP2.out]; rfl,rfl⟩
         case measure => simp only [intOf]; omega
        ·have hie : i = s := by omega
         subst hie
         have hltz : ¬(i : Int) < (i : Int) := by omega
         obtain ⟨f,hf⟩ : ∃ f,Hid (2 ^ i = f) := ⟨2 ^ i,rfl⟩
         have HF : Hid (f ≤ BB / 2) := by
          unfold Hid; rw [← hf.out]
          exact hpw
         rw [hf.out]
         clear hpw hs24 his
         go_wp2
         go_loopw [9,10] (fun s9 s10 wk => ∃ (j c : Nat) (P : List Nat) ,j ≤ l.length ∧ s9 = .int .i64 (c : Nat) ∧ s10 = .int .i64 (j : Nat) ∧ Hid (PwC l P f j c) ∧ Hid (PwM W1 p e' wk P v)) (fun _ s10 _ => l.length - (intOf s10).toNat)
         case atStart => exact ⟨0,0,l,Nat.zero_le _,rfl,rfl,PwC.start f HI.out.dig,HM.out⟩
         case round =>
          obtain ⟨j,c,P,hj,rfl,rfl,HC,HP⟩ := hrel
          have HLP := Lib.hid HC.out.len
          by_cases hjl : j < l.length
          ·obtain ⟨g,cap,rfl,hgp⟩ : ∃ g cap,v = .slice (some ⟨g,0,none⟩) l.length cap ∧ p < g := by
            rcases HP.out.own.2 with ⟨_,h0⟩ | ⟨g,cap,cur,rfl,hg,_⟩
            ·have := HLP.out; omega
            ·exact ⟨g,cap,by rw [← HLP.out],by omega⟩
           have hjz : (j : Int) < (l.length : Int) := by omega
           have hj0 : (0 : Int) ≤ (j : Int) := by omega
           have hst := HC.out.step hjl HI.out.dig HF.out
           obtain ⟨x,hx⟩ : ∃ x,Hid (P.getD j 0 = x) := ⟨P.getD j 0,rfl⟩
           rw [hx.out] at hst
           obtain ⟨m,hm⟩ : ∃ m,Hid (x * f = m) := ⟨x * f,rfl⟩
           rw [hm.out] at hst
           obtain ⟨V,hV⟩ : ∃ V,Hid (m + c = V) := ⟨m + c,rfl⟩
           rw [hV.out] at hst
           obtain ⟨d,hd⟩ : ∃ d,Hid (V % BB = d) := ⟨V % BB,rfl⟩
           obtain ⟨c2,hc2⟩ : ∃ c2,Hid (V / BB = c2) := ⟨V / BB,rfl⟩
           rw [hd.out,hc2.out] at hst
           have HSTP := Lib.hid hst.1
           have hVb := hst.2
           clear hst
           have HP2 := Lib.hid (HP.out.set HLP.out.symm j d)
           have k1 : wr.cell? ⟨p,1,none⟩ = some (.slice (some ⟨g,0,none⟩) l.length cap) := HP.out.box.c.2.1
           have k3 : wr.cell? ⟨g,j,none⟩ = some (.int .i64 (x : Nat)) := by
            have := HP.out.own
            rw [← HLP.out] at this
            rw [this.cellAt j (by have := HLP.out; omega),dC_at (by have := HLP.out; omega),hx.out]
           have kf : wr.frozen? ⟨g,j,none⟩ = false := by
            have := HP.out.own
            rw [← HLP.out] at this
            exact this.frozenAt j
           have hmV : m ≤ V := by have := hV.out; omega
           have hb1 : x * f < 281474976710656 := by rw [hm.out]; omega
           have hb2 : m + c < 281475100000000 := by rw [hV.out]; omega
           have hb3 : V < 281475100000000 := by omega
           clear hmV hVb
           have hqm : IntKind.i64.wrap ((x : Int) * (f : Int)) = (m : Int) := by have := mul_prod x f hb1; rw [hm.out] at this; exact this
           have hqV : IntKind.i64.wrap ((m : Int) + (c : Int)) = (V : Int) := by have := mul_sum m c hb2; rw [hV.out] at this; exact this
           have htm : (V : Int).tmod 16777216 = (d : Int) := by have := mul_tm V; rw [hd.out] at this; exact this
           have htd : (V : Int).tdiv 16777216 = (c2 : Int) := by have := mul_td V; rw [hc2.out] at this; exact this
           have hwdc := mul_small2 hb3
           rw [hd.out,hc2.out] at hwdc
           obtain ⟨hwd,hwc⟩ := hwdc
           have HW := Lib.hid (And.intro htm (And.intro htd (And.intro hwd hwc)))
           clear htm htd hwd hwc hb1 hb2 hb3
           have N0 : Hid (wr.drew.cell? ⟨p,1,none⟩ = some (.slice (some ⟨g,0,none⟩) l.length cap) ∧ wr.drew.cell? ⟨g,j,none⟩ = some (.int .i64 (x : Nat))) := ⟨k1,k3⟩
           have k1d : wr.drew.cell? ⟨p,1,none⟩ = some (.slice (some ⟨g,0,none⟩) l.length cap) := k1
           have k3d : wr.drew.cell? ⟨g,j,none⟩ = some (.int .i64 (x : Nat)) := k3
           have hmd : (V : Int) % 16777216 = (d : Int) := by have := hd.out; rw [BB_eq] at this; omega
           have hdv : (V : Int) / 16777216 = (c2 : Int) := by have := hc2.out; rw [BB_eq] at this; omega
           have HMD := Lib.hid (And.intro hmd hdv)
           clear hmd hdv
           go_wp2
           go_roundw
           case rel =>
            obtain ⟨hmd,hdv⟩ := HMD.out
            rw [hmd,hdv,HW.out.2.2.2,wrapK (by have := HS.out.1; have := hll.out; omega)]
            exact ⟨j + 1,c2,P.set j d,hjl,rfl,rfl,HSTP.out,HP2.out⟩
           case measure => rw [wrapK (by have := hll.out; omega)]; simp only [intOf]; omega
          ·have hje : j = l.length := by omega
           subst hje
           obtain ⟨ad,cap,rfl,hcap,hda⟩ := own_digits HP.out.own
           rw [HLP.out] at hcap HP
           have hjz : ¬(l.length : Int) < (l.length : Int) := by omega
           have b1 : wr.cell? ⟨p,1,none⟩ = some (.slice ad l.length cap) := HP.out.box.c.2.1
           have b1a : ∀ o,(wr.alloc o).cell? ⟨p,1,none⟩ = some (.slice ad l.length cap) := fun o => (HP.out.box.al o).c.2.1
           have HPL := Lib.hid HP.out.box.lt
           have hl3 := hll.out
           have HOW := HP.out.own
           rw [HLP.out] at HOW
           clear hcap hda hj hjl
           go_wp2_with (at_builtin; refine wpList_append_own _ rfl _ _ 122 rfl (p + 1) 2 i0 (.int .i64 0) 1 8 Tryz.underlying122 hi hz0 hz1 hz2 rfl (by decide) (.slice ad l.length cap) l.length (dC P) rfl (HOW.alloc _) ⟨wr.heap.size,0,none⟩ 1 1 [.int .i64 (c : Nat)] rfl rfl (cells_new wr [.int .i64 (c : Nat)] 2) (fun u hu => by simp at hu; subst hu; rfl) (by unfold maxLen; omega) (by omega) (by have := HPL.out; simp; omega) ?_)
           intro v' w2 hown hgrow _
           rw [← HLP.out] at hown
           obtain ⟨g9,cap9,rfl⟩ : ∃ g9 cap9,v' = .slice (some ⟨g9,0,none⟩) (P.length + 1) cap9 := by
            rcases hown.2 with ⟨_,h0⟩ | ⟨g9,c9,cur,rfl,_⟩
            ·omega
            ·exact ⟨g9,c9,rfl⟩
           have HPU := Lib.hid (HP.out.push (d := c) hown hgrow)
           have c1 := HPU.out.2.c.2.1
           have cf := HPU.out.2.fz 1
           have hlen : (P ++ [c]).length = P.length + 1 := by simp
           have hdg : ∀ z,z ∈ P ++ [c] → z < BB := fun z hz => by
            rcases List.mem_append.1 hz with hz | hz
            ·exact HC.out.dig z hz
            ·simp only [List.mem_cons,List.not_mem_nil,or_false] at hz; rw [hz]; exact HC.out.cr
           have hval := power_val (k := k0) HI.out HC.out hf.out.symm (by have := HS.out; have := HE.out; omega) HS.out.2.1
           obtain ⟨ad9,cp9,he9,hcap9,hda9⟩ := own_digits HPU.out.1.own
           rw [hlen] at he9 hcap9
           simp only [Value.slice.injEq,true_and] at he9
           obtain ⟨rfl,rfl⟩ := he9
           have HT : Hid (Calls Tryz.prog 162 #[.agg #[.int .i64 1,.slice (some ⟨g9,0,none⟩) (P.length + 1) cap9,.int .i64 e']] (w2.setCell ⟨p,1,none⟩ (.slice (some ⟨g9,0,none⟩) (P.length + 1) cap9)) fun r w' => ∃ (z : NumP) (az : Option Addr) (cz : Nat),r = .returned (.agg #[.int .i64 z.S,.slice az z.D.length cz,.int .i64 z.E]) ∧ Hid ((DAt w' az z.D ∧ z.D.length ≤ cz) ∧ Wf z ∧ nv z = (n0 : Int) * 2 ^ (k0 + 4800).toNat ∧ Rng e z ∧ Below (w2.setCell ⟨p,1,none⟩ (.slice (some ⟨g9,0,none⟩) (P.length + 1) cap9)).heap.size (w2.setCell ⟨p,1,none⟩ (.slice (some ⟨g9,0,none⟩) (P.length + 1) cap9)) w')) := by
            have := trim_walk (x := ⟨1,P ++ [c],e'⟩) (cap := cap9) (e := e) hda9 (by show (P ++ [c]).length ≤ _; omega) HE.out ⟨by have := HS.out; show -(e : Int) ≤ e'; omega,by have := HS.out; show e' + ((P ++ [c]).length : Int) ≤ e; have := HLP.out; omega⟩ hdg (.inl rfl)
            unfold NumA at this
            dsimp only at this
            rw [hlen] at this
            refine this.mono ?_
            rintro r w' ⟨z,v,rfl,h1,h2,h3,h4,h5⟩
            obtain ⟨az,cz,rfl,h6,h7⟩ := h1.ex
            exact ⟨z,az,cz,rfl,⟨h6,h7⟩,h2,h3.trans hval,h4,h5⟩
           have HRW := Lib.hid (HR0.out.low HPU.out.1.low HP0.out)
           have HBX := Lib.hid (HBW.out.trans (HPU.out.1.low.mono (Nat.le_of_lt HP0.out)))
           obtain ⟨d0,d1,d2⟩ := HPU.out.1.box.c
           have HSZ := Lib.hid HPU.out.1.low.size
           clear hown hgrow b1 b1a hval hdg hda9 hcap9 HOW
           go_wp2_with (go_at_call 162; refine HT.out.mono ?_; rintro r w5 ⟨z,az,cz,rfl,H5⟩; have R5 := Lib.hid (HRW.out.below H5.out.2.2.2.2); obtain ⟨r0,r1,r2⟩ := R5.out.c; have g0 := R5.out.fz 0; have g1 := R5.out.fz 1; have g2 := R5.out.fz 2)
           obtain ⟨f0,f1,f2⟩ := (R5.out.put (.int .i64 z.S) (.slice az z.D.length cz) (.int .i64 z.E)).c
           refine bodyPost_ret (by simp [results,Tryz.results140,go_sem,f0,f1,f2]; try rfl) rfl ?_
           have hb5 := HBX.out.trans (H5.out.2.2.2.2.mono HBX.out.size)
           exact ⟨_,rfl,⟨z,⟨az,cz,rfl,H5.out.1.1.put H5.out.2.1.lead R5.out _ _ _,H5.out.1.2⟩,H5.out.2.1,H5.out.2.2.2.1,H5.out.2.2.1⟩,put_below hb5 (Nat.le_refl _) _ _ _⟩
      ·have hnz : (0 : Int) < (n : Int) := by omega
       have b1 := HM.out.box.c.2.1
       have b1a := fun o => (HM.out.box.al o).c.2.1
       have hll := HI.out.len HN.out (by omega)
       have HM2 := Lib.hid (HM.out.box.lt)
       go_wp2_with (at_builtin; refine wpList_append_own _ rfl _ _ 122 rfl (p + 1) 2 i0 (.int .i64 0) 1 8 Tryz.underlying122 hi hz0 hz1 hz2 rfl (by decide) v l.length (dC l) rfl (HM.out.own.alloc _) ⟨wr.heap.size,0,none⟩ 1 1 [.int .i64 (n % BB : Nat)] rfl rfl (cells_new wr [.int .i64 (n % BB : Nat)] 2) (fun u hu => by simp at hu; subst hu; rfl) (by unfold maxLen; omega) (by omega) (by have := HM2.out; simp; omega) ?_)
       intro v' w2 hown hgrow _
       obtain ⟨g9,cap9,rfl⟩ : ∃ g9 cap9,v' = .slice (some ⟨g9,0,none⟩) (l.length + 1) cap9 := by
        rcases hown.2 with ⟨_,h0⟩ | ⟨g9,c9,cur,rfl,_⟩
        ·omega
        ·exact ⟨g9,c9,rfl⟩
       have HPU := Lib.hid (HM.out.push (d := n % BB) hown hgrow)
       have c1 := HPU.out.2.c.2.1
       have cf := HPU.out.2.fz 1
       clear hown hgrow b1 b1a
       have HNZ := Lib.hid hn0
       have HLL3 : Hid ((l ++ [n % BB]).length ≤ 3) := by unfold Hid; rw [List.length_append]; simp; omega
       go_wp2
       go_roundw
       case rel => exact ⟨n / BB,l ++ [n % BB],_,by rw [wrap_bb (Nat.lt_of_le_of_lt HI.out.le HN.out)],HI.out.step,HPU.out.1,HLL3⟩
       case measure => have := HNZ.out; rw [wrap_bb (Nat.lt_of_le_of_lt HI.out.le HN.out),BB_eq]; simp only [intOf]; omega
theorem up53 {f M : Nat} (hf : fin f) (hv : fval f = (M : Int) * 2 ^ e1021) (hM : M < 2 ^ 53) :
  fin (fmul f 4845873199050653696) ∧ ∀ w,(convert 66 171 (.float .f64 (fmul f 4845873199050653696))).run Tryz.prog w = .ok (.int .u64 (M : Int)) w := by
 have hu := unitE_eq
 have he := e1021_eq
 have ht := top_eq
 have hc : fin 4845873199050653696 := by unfold fin; omega
 have hcv : fval 4845873199050653696 = 2 ^ (unitE + 53) := fval_pow (F := 1076) hc (by omega) (by omega) (by omega) (by omega) rfl
 have hr : rep ((M : Int) * 2 ^ unitE) := rep_scale (rep_small (by omega)) _
 have hi : inReach ((M : Int) * 2 ^ unitE) := by
  refine inReach_le (k := 53 + unitE) ?_ (by omega)
  rw [Int.natAbs_mul,natAbs_two_pow,Nat.pow_add]
  exact Nat.mul_le_mul_right _ (by omega)
 have hm := fmul_val hf hc (Z := (M : Int) * 2 ^ unitE) (by rw [hcv,hv,Int.mul_assoc,Int.mul_assoc,← Int.pow_add,← Int.pow_add]; congr 2) hi
 rw [rn_rep hr] at hm
 refine ⟨hm.1,fun w => ?_⟩
 exact run_convert_float_int w 66 171 .f64 .u64 _ M (by rw [Tryz.underlying66]; rfl) Tryz.underlying171 (to_u64 hm.1 hm.2 (by omega))
theorem of_pos {x f M t e : Nat} {w : World} (hx : fin x) (h0 : 0 < fval x) (hF : ∀ w,Calls Tryz.prog 188 #[.float .f64 x] w fun e w' => e = .returned (.tuple #[.float .f64 f,.int .i64 ((t : Int) - 1073)]) ∧ w = w') (hf : fin f) (hfv : fval f = (M : Int) * 2 ^ e1021) (hM : M < 2 ^ 53) (ht : t < 2 ^ 12)
  (hP : ∀ w,Calls Tryz.prog 140 #[.int .u64 M,.int .i64 ((t : Int) - 1126)] w fun r w' => ∃ z,r = .returned z ∧ NumK w' z e ((M : Int) * 2 ^ ((t : Int) - 1126 + 4800).toNat) ∧ Below w.heap.size w w') :
  Calls Tryz.prog 137 #[.float .f64 x] w fun r w' => ∃ z,r = .returned z ∧ NumK w' z e ((M : Int) * 2 ^ ((t : Int) - 1126 + 4800).toNat) ∧ Below w.heap.size w w' := by
 have hz : fin 0 := by unfold fin; omega
 have hz0 : fval 0 = 0 := by decide
 have hsub := fsub_val hx hx (by rw [Int.sub_self]; exact inReach_le (k := 1) (by decide) (by rw [top_eq]; decide))
 have e1 : fne x x = false := by rw [fne_val hx hx]; simp
 have e2 : fne (fsub x x) 0 = false := by rw [fne_val hsub.1 hz,hsub.2,hz0,Int.sub_self,rn_zero]; simp
 have e3 : feq x 0 = false := by rw [feq_val hx hz,hz0]; simp; omega
 have e4 : flt x 0 = false := by rw [flt_val hx hz,hz0]; simp; omega
 obtain ⟨hg,hcv⟩ := up53 hf hfv hM
 have hc53 : fin 4845873199050653696 := by unfold fin; omega
 have HF := Lib.hid hF
 have HR0 : Hid (Box3 124 (w.alloc (.cells #[.int .i64 0,.slice none 0 0,.int .i64 0] 124)) w.heap.size (.int .i64 0) (.slice none 0 0) (.int .i64 0)) := Box3.new _ _ _ _ _
 have HBW : Hid (Below w.heap.size w (w.alloc (.cells #[.int .i64 0,.slice none 0 0,.int .i64 0] 124))) := (Below.refl _ _).alloc (Nat.le_refl _) _
 have HP : Hid (∀ w,Calls Tryz.prog 140 #[.int .u64 M,.int .i64 ((t : Int) - 1073 - 53)] w fun r w' => ∃ (s ee : Int) (ad : Option Addr) (l c : Nat),r = .returned (.agg #[.int .i64 s,.slice ad l c,.int .i64 ee]) ∧ Hid (NumK w' (.agg #[.int .i64 s,.slice ad l c,.int .i64 ee]) e ((M : Int) * 2 ^ ((t : Int) - 1126 + 4800).toNat)) ∧ Hid (Below w.heap.size w w')) := fun w => by
  rw [show (t : Int) - 1073 - 53 = (t : Int) - 1126 by omega]
  refine (hP w).mono ?_
  rintro r w' ⟨z,rfl,hz,hb⟩
  obtain ⟨s,ee,dd,l,c,rfl,_⟩ := hz.agg
  exact ⟨s,ee,dd,l,c,rfl,hz,hb⟩
 clear hF hP h0 hsub hz0 hfv hM
 go_enter Tryz.func137,Tryz.ntmps137
 go_wp2_with (first | (go_at_call 188; (with_reducible refine (HF.out _).mono ?_); rintro e w' ⟨rfl,rfl⟩) | (go_at_call 140; (with_reducible refine (HP.out _).mono ?_); rintro r w1 ⟨s,ee,dd,l,c,rfl,HZ,HB⟩; have R1 := Lib.hid (HR0.out.below HB.out); obtain ⟨r0,r1,r2⟩ := (R1.out.al (.cells #[.int .i64 s,.slice dd l c,.int .i64 ee] 124)).c; have g0 := (R1.out.al (.cells #[.int .i64 s,.slice dd l c,.int .i64 ee] 124)).fz 0; have g1 := (R1.out.al (.cells #[.int .i64 s,.slice dd l c,.int .i64 ee] 124)).fz 1; have g2 := (R1.out.al (.cells #[.int .i64 s,.slice dd l c,.int .i64 ee] 124)).fz 2))
 have R2 := Lib.hid (R1.out.al (.cells #[.int .i64 s,.slice dd l c,.int .i64 ee] 124))
 obtain ⟨f0,f1,f2⟩ := (R2.out.put (.int .i64 s) (.slice dd l c) (.int .i64 ee)).c
 refine bodyPost_ret (by simp [results,Tryz.results137,go_sem,f0,f1,f2]; try rfl) rfl ?_
 have hb1 := HBW.out.trans (HB.out.mono HBW.out.size)
 exact ⟨_,rfl,(HZ.out.below ((Below.refl _ _).alloc (Nat.le_refl _) _)).put R2.out _ _ _,put_below (hb1.alloc hb1.size _) (Nat.le_refl _) _ _ _⟩
theorem NumK.flip {w : World} {s ee : Int} {ad : Option Addr} {l c e : Nat} {a : Int} (h : NumK w (.agg #[.int .i64 s,.slice ad l c,.int .i64 ee]) e a) (hs : s = 1) : NumK w (.agg #[.int .i64 (-1),.slice ad l c,.int .i64 ee]) e (-a) := by
 have := h.neg
 rw [hs,show wrap64 (-1) = -1 by unfold wrap64; omega] at this
 exact this
theorem sgnI_one {k : Int} (h : 0 < k) : sgnI k = 1 := by have := sgnI_gt (a := k) (b := 0) h; rwa [Int.sub_zero] at this
theorem of_neg {x f M t e : Nat} {w : World} (hx : fin x) (h0 : fval x < 0) (hF : ∀ w,Calls Tryz.prog 188 #[.float .f64 (fopp x)] w fun e w' => e = .returned (.tuple #[.float .f64 f,.int .i64 ((t : Int) - 1073)]) ∧ w = w') (hf : fin f) (hfv : fval f = (M : Int) * 2 ^ e1021) (hM0 : 0 < M) (hM : M < 2 ^ 53) (ht : t < 2 ^ 12)
  (hP : ∀ w,Calls Tryz.prog 140 #[.int .u64 M,.int .i64 ((t : Int) - 1126)] w fun r w' => ∃ z,r = .returned z ∧ NumK w' z e ((M : Int) * 2 ^ ((t : Int) - 1126 + 4800).toNat) ∧ Below w.heap.size w w') :
  Calls Tryz.prog 137 #[.float .f64 x] w fun r w' => ∃ z,r = .returned z ∧ NumK w' z e (-((M : Int) * 2 ^ ((t : Int) - 1126 + 4800).toNat)) ∧ Below w.heap.size w w' := by
 have hz : fin 0 := by unfold fin; omega
 have hz0 : fval 0 = 0 := by decide
 have hsub := fsub_val hx hx (by rw [Int.sub_self]; exact inReach_le (k := 1) (by decide) (by rw [top_eq]; decide))
 have e1 : fne x x = false := by rw [fne_val hx hx]; simp
 have e2 : fne (fsub x x) 0 = false := by rw [fne_val hsub.1 hz,hsub.2,hz0,Int.sub_self,rn_zero]; simp
 have e3 : feq x 0 = false := by rw [feq_val hx hz,hz0]; simp; omega
 have e4 : flt x 0 = true := by rw [flt_val hx hz,hz0]; simp; omega
 obtain ⟨hg,hcv⟩ := up53 hf hfv hM
 have hc53 : fin 4845873199050653696 := by unfold fin; omega
 have HF := Lib.hid hF
 have HR0 : Hid (Box3 124 (w.alloc (.cells #[.int .i64 0,.slice none 0 0,.int .i64 0] 124)) w.heap.size (.int .i64 0) (.slice none 0 0) (.int .i64 0)) := Box3.new _ _ _ _ _
 have HBW : Hid (Below w.heap.size w (w.alloc (.cells #[.int .i64 0,.slice none 0 0,.int .i64 0] 124))) := (Below.refl _ _).alloc (Nat.le_refl _) _
 have HP : Hid (∀ w,Calls Tryz.prog 140 #[.int .u64 M,.int .i64 ((t : Int) - 1073 - 53)] w fun r w' => ∃ (ee : Int) (ad : Option Addr) (l c : Nat),r = .returned (.agg #[.int .i64 1,.slice ad l c,.int .i64 ee]) ∧ Hid (NumK w' (.agg #[.int .i64 1,.slice ad l c,.int .i64 ee]) e ((M : Int) * 2 ^ ((t : Int) - 1126 + 4800).toNat)) ∧ Hid (Below w.heap.size w w')) := fun w => by
  rw [show (t : Int) - 1073 - 53 = (t : Int) - 1126 by omega]
  refine (hP w).mono ?_
  rintro r w' ⟨z,rfl,hz,hb⟩
  obtain ⟨s,ee,dd,l,c,rfl,hs⟩ := hz.agg
  have hpos : (0 : Int) < (M : Int) * 2 ^ ((t : Int) - 1126 + 4800).toNat := Int.mul_pos (by omega) (Int.pow_pos (by omega))
  rw [sgnI_one hpos] at hs
  subst hs
  exact ⟨ee,dd,l,c,rfl,hz,hb⟩
 clear hF hP h0 hsub hz0 hfv hM hM0
 go_enter Tryz.func137,Tryz.ntmps137
 go_wp2_with (first | (go_at_call 188; (with_reducible refine (HF.out _).mono ?_); rintro e w' ⟨rfl,rfl⟩) | (go_at_call 140; (with_reducible refine (HP.out _).mono ?_); rintro r w1 ⟨ee,dd,l,c,rfl,HZ,HB⟩; have R1 := Lib.hid (HR0.out.below HB.out); obtain ⟨r0,r1,r2⟩ := (R1.out.al (.cells #[.int .i64 (-1),.slice dd l c,.int .i64 ee] 124)).c; have g0 := (R1.out.al (.cells #[.int .i64 (-1),.slice dd l c,.int .i64 ee] 124)).fz 0; have g1 := (R1.out.al (.cells #[.int .i64 (-1),.slice dd l c,.int .i64 ee] 124)).fz 1; have g2 := (R1.out.al (.cells #[.int .i64 (-1),.slice dd l c,.int .i64 ee] 124)).fz 2))
 have R2 := Lib.hid (R1.out.al (.cells #[.int .i64 (-1),.slice dd l c,.int .i64 ee] 124))
 obtain ⟨f0,f1,f2⟩ := (R2.out.put (.int .i64 (-1)) (.slice dd l c) (.int .i64 ee)).c
 refine bodyPost_ret (by simp [results,Tryz.results137,go_sem,f0,f1,f2]; try rfl) rfl ?_
 have hb1 := HBW.out.trans (HB.out.mono HBW.out.size)
 exact ⟨_,rfl,((HZ.out.flip rfl).below ((Below.refl _ _).alloc (Nat.le_refl _) _)).put R2.out _ _ _,put_below (hb1.alloc hb1.size _) (Nat.le_refl _) _ _ _⟩
theorem of_zero {x e : Nat} {w : World} (hx : fin x) (h0 : fval x = 0) :
  Calls Tryz.prog 137 #[.float .f64 x] w fun r w' => ∃ z,r = .returned z ∧ NumK w' z e 0 ∧ Below w.heap.size w w' := by
 have hz : fin 0 := by unfold fin; omega
 have hz0 : fval 0 = 0 := by decide
 have hsub := fsub_val hx hx (by rw [Int.sub_self]; exact inReach_le (k := 1) (by decide) (by rw [top_eq]; decide))
 have e1 : fne x x = false := by rw [fne_val hx hx]; simp
 have e2 : fne (fsub x x) 0 = false := by rw [fne_val hsub.1 hz,hsub.2,hz0,Int.sub_self,rn_zero]; simp
 have e3 : feq x 0 = true := by rw [feq_val hx hz,hz0]; simp; omega
 have HBW : Hid (∀ o,Below w.heap.size w (w.alloc o)) := fun o => (Below.refl _ _).alloc (Nat.le_refl _) _
 clear h0 hsub hz0
 go_enter Tryz.func137,Tryz.ntmps137
 go_wp2
 go_returns
 exact ⟨_,rfl,num0K _ _,HBW.out _⟩
theorem of_unit {k M t : Nat} (h : (k : Int) * 2 ^ 52 = (M : Int) * 2 ^ t) : (M : Int) * 2 ^ ((t : Int) - 1126 + 4800).toNat = (k : Int) * 2 ^ 3726 := by
 have e : ((t : Int) - 1126 + 4800).toNat = t + 3674 := by omega
 rw [e,Int.pow_add,← Int.mul_assoc,← h,Int.mul_assoc,← Int.pow_add]
theorem ofK {x e : Nat} {w : World} (hx : fin x) (he : e ≤ 190) (hr : ∀ M t : Nat,2 ^ 52 ≤ M → M < 2 ^ 53 → t < 2 ^ 12 → ((fval x).natAbs : Int) * 2 ^ 52 = (M : Int) * 2 ^ t → -(24 * e : Int) ≤ (t : Int) - 1126 ∧ (t : Int) - 1126 + 96 ≤ 24 * e) :
  Calls Tryz.prog 137 #[.float .f64 x] w fun r w' => ∃ z,r = .returned z ∧ NumK w' z e (fval x * 2 ^ 3726) ∧ Below w.heap.size w w' := by
 rcases Int.lt_trichotomy (fval x) 0 with h | h | h
 ·have hy := fopp_fin hx
  have hv := fopp_val hx.1
  obtain ⟨f,M,t,hc,hf,hfv,hM1,hM2,hval,ht⟩ := Frexp_exact (fopp x) hy (by rw [hv]; omega)
  rw [hv] at hval
  have hn : ((fval x).natAbs : Int) = -fval x := by omega
  rw [← hn] at hval
  obtain ⟨h1,h2⟩ := hr M t hM1 hM2 ht hval
  have := of_neg (w := w) hx h hc hf hfv (by omega) hM2 ht (fun w => power_walk (by omega) h1 h2 he)
  rw [of_unit hval,hn,Int.neg_mul,Int.neg_neg] at this
  exact this
 ·have := of_zero (e := e) (w := w) hx h
  rw [h,Int.zero_mul]; exact this
 ·obtain ⟨f,M,t,hc,hf,hfv,hM1,hM2,hval,ht⟩ := Frexp_exact x hx h
  have hn : ((fval x).natAbs : Int) = fval x := by omega
  rw [← hn] at hval
  obtain ⟨h1,h2⟩ := hr M t hM1 hM2 ht hval
  have := of_pos (w := w) hx h hc hf (by exact hfv) hM2 ht (fun w => power_walk (by omega) h1 h2 he)
  rw [of_unit hval,hn] at this
  exact this
theorem ofK_any {x : Nat} {w : World} (hx : fin x) :
  Calls Tryz.prog 137 #[.float .f64 x] w fun r w' => ∃ z,r = .returned z ∧ NumK w' z 180 (fval x * 2 ^ 3726) ∧ Below w.heap.size w w' :=
 ofK hx (by omega) (fun M t _ _ ht _ => by omega)
theorem pow_step15 (n t : Nat) (h : n + 1 ≤ t) : 2 ^ n * 2 ≤ 2 ^ t := by
 rw [← Nat.pow_succ]
 exact Nat.pow_le_pow_right (by omega) h
theorem may_rng {n M t : Nat} (h1 : n ≤ 2 ^ (unitE + 100)) (h2 : n % 2 ^ gridE = 0) (hM : 2 ^ 52 ≤ M) (hM2 : M < 2 ^ 53) (h : (n : Int) * 2 ^ 52 = (M : Int) * 2 ^ t) : -(24 * (7 : Nat) : Int) ≤ (t : Int) - 1126 ∧ (t : Int) - 1126 + 96 ≤ 24 * (7 : Nat) := by
 have hN : n * 2 ^ 52 = M * 2 ^ t := by
  have c : ∀ (a b : Nat),((a * 2 ^ b : Nat) : Int) = (a : Int) * 2 ^ b := fun a b => by simp
  rw [← c,← c] at h; exact Int.ofNat.inj h
 have hu := unitE_eq
 have hg := gridE_eq
 have hp : 0 < 2 ^ t := Nat.two_pow_pos t
 have t1 : t ≤ 1174 := by
  apply Classical.byContradiction
  intro hc
  have a1 : 2 ^ 52 * 2 ^ t ≤ M * 2 ^ t := Nat.mul_le_mul_right _ hM
  have a2 := pow_step15 (unitE + 100) t (by omega)
  have a3 : 0 < 2 ^ (unitE + 100) := Nat.two_pow_pos _
  omega
 have t2 : 974 ≤ t := by
  apply Classical.byContradiction
  intro hc
  have a1 : M * 2 ^ t < 2 ^ 53 * 2 ^ t := Nat.mul_lt_mul_of_pos_right hM2 hp
  have a2 : 2 ^ (t + 1) ≤ 2 ^ gridE := Nat.pow_le_pow_right (by omega) (by omega)
  rw [Nat.pow_succ] at a2
  have a3 : n ≠ 0 := by
   intro e
   rw [e] at hN
   have : 0 < M * 2 ^ t := Nat.mul_pos (by omega) hp
   omega
  have a4 : 2 ^ gridE ≤ n := Nat.le_of_dvd (by omega) (Nat.dvd_of_mod_eq_zero h2)
  omega
 omega
theorem ofK_may {x : Nat} {w : World} (h64 : x < 2 ^ 64) (h : coordB x = true) :
  Calls Tryz.prog 137 #[.float .f64 x] w fun r w' => ∃ z,r = .returned z ∧ NumK w' z 7 (fval x * 2 ^ 3726) ∧ Below w.heap.size w w' := by
 unfold coordB at h
 rw [Bool.and_eq_true] at h
 exact ofK (fin_of_le h64 h.1) (by omega) (fun M t h1 h2 _ hv => may_rng (le_of_le h64 h.1) (of_decide_eq_true h.2) h1 h2 hv)
end Go.Proofs.YtbagikgpgdlkcaaGreatDoor
