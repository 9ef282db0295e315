/- Part of the proof. No conditions. -/
import Derived.Test.YtbagikgpgdlkcaaGreatDoorZF
import Derived.Test.YtbagikgpgdlkcaaGreatDoorZR
set_option linter.all false
set_option maxHeartbeats 8000000
set_option maxRecDepth 100000
namespace Go.Proofs.YtbagikgpgdlkcaaGreatDoor
open Go.RowKit Tvf Go.Maps Go.WideMaps
theorem nadd_main {x y : NumP} {ad bd : Option Addr} {ca cb e : Nat} {w : World} (hdx : DAt w ad x.D) (hdy : DAt w bd y.D) (he : e + 1 ≤ 190) (hrx : Rng e x) (hry : Rng e y) (hwx : Wf x) (hwy : Wf y) (hx0 : x.S ≠ 0) (hy0 : y.S ≠ 0) (hm : x.S = y.S ∨ mv y ≤ mv x) :
  Calls Tryz.prog 160 #[NumA x ad ca,NumA y bd cb] w fun r w' => ∃ z v,r = .returned v ∧ NumV w' v z ∧ Wf z ∧ nv z = nv x + nv y ∧ Rng (e + 1) z ∧ Below w.heap.size w w' := by
 have HDX := Lib.hid (fun W (hb : Below w.heap.size w W) i hi => digit_walk (x := x) (ad := ad) (cap := ca) (hdx.below hb) ⟨by have := hrx.lo; omega,by have := hrx.hi; omega⟩ i hi)
 have HDY := Lib.hid (fun W (hb : Below w.heap.size w W) i hi => digit_walk (x := y) (ad := bd) (cap := cb) (hdy.below hb) ⟨by have := hry.lo; omega,by have := hry.hi; omega⟩ i hi)
 have HSZ : Hid (∀ W,Below w.heap.size w W → Calls Tryz.prog 200 #[NumA x ad ca,NumA y bd cb] W fun r w' => r = .returned (.int .i64 (sgnI ((mv x : Int) - mv y))) ∧ Below W.heap.size W w') :=
  fun W hb => size_walk (hdx.below hb) (hdy.below hb) ⟨by have := hrx.lo; omega,by have := hrx.hi; omega⟩ ⟨by have := hry.lo; omega,by have := hry.hi; omega⟩ hwx hwy
 obtain ⟨f,hf⟩ : ∃ f : Int,min x.E y.E = f := ⟨_,rfl⟩
 obtain ⟨t,ht⟩ : ∃ t : Int,max (x.E + x.D.length) (y.E + y.D.length) = t := ⟨_,rfl⟩
 have hwx1 : wrap64 (x.E + (x.D.length : Int)) = x.E + x.D.length := by have := hrx.lo; have := hrx.hi; unfold wrap64; omega
 have hwy1 : wrap64 (y.E + (y.D.length : Int)) = y.E + y.D.length := by have := hry.lo; have := hry.hi; unfold wrap64; omega
 have HB : Hid (f ≤ x.E ∧ f ≤ y.E ∧ x.E + x.D.length ≤ t ∧ y.E + y.D.length ≤ t ∧ -(e : Int) ≤ f ∧ t ≤ e ∧ f ≤ t) := by have := hrx.lo; have := hrx.hi; have := hry.lo; have := hry.hi; unfold Hid; omega
 obtain ⟨n,hn⟩ : ∃ n : Nat,Hid (t = f + n) := ⟨(t - f).toNat,by have := HB.out; unfold Hid; omega⟩
 have HE := Lib.hid he
 have HWX := Lib.hid hwx
 have HWY := Lib.hid hwy
 have HXS : Hid (x.S = 1 ∨ x.S = -1) := by have := hwx.sg; unfold Hid; omega
 have HYS : Hid (y.S = 1 ∨ y.S = -1) := by have := hwy.sg; unfold Hid; omega
 obtain ⟨i0,hi,hz0,hz1,hz2⟩ := info_parts infoI64
 have HSG : Hid (∀ sg : Int,(sg = 1 ∧ x.S = y.S) ∨ (sg = -1 ∧ ¬x.S = y.S) → (sg = 1 ∧ y.S = x.S) ∨ (sg = -1 ∧ y.S = -x.S ∧ mv y ≤ mv x)) := by
  intro sg h
  have := HXS.out; have := HYS.out
  rcases h with ⟨h1,h2⟩ | ⟨h1,h2⟩
  ·exact .inl ⟨h1,h2.symm⟩
  ·exact .inr ⟨h1,by omega,hm.resolve_left h2⟩
 obtain ⟨R,hR⟩ : ∃ R : Int,Hid (sgnI ((mv x : Int) - mv y) = R) := ⟨_,rfl⟩
 have HRN : Hid (¬x.S = y.S → ¬R < 0) := fun h => by
  have := hm.resolve_left h
  rw [← hR.out]; unfold sgnI; split
  ·omega
  ·split <;> omega
 rw [hR.out] at HSZ
 unfold NumA at *
 clear hdx hdy hrx hry hwx hwy hm he hR
 have h3 : (x.S != y.S) = false ∧ Hid (x.S = y.S) ∨ ¬x.S = y.S := by
  by_cases h : x.S = y.S
  ·exact .inl ⟨by rw [h]; simp,h⟩
  ·exact .inr h
 rcases h3 with ⟨hne,HXY⟩ | hxy
 ·go_enter Tryz.func160,Tryz.ntmps160
  go_wp2
  have HBX := boxes4 (w := w) (.int .i64 x.S) (.slice ad x.D.length ca) (.int .i64 x.E) (.int .i64 y.S) (.slice bd y.D.length cb) (.int .i64 y.E) (.int .i64 0) (.slice none 0 0) (.int .i64 0) (.int .i64 x.S) (.slice none 0 0) (.int .i64 f) 124 (Below.refl _ _)
  rw [show (((w.alloc (.cells #[.int .i64 x.S,.slice ad x.D.length ca,.int .i64 x.E] 124)).alloc (.cells #[.int .i64 y.S,.slice bd y.D.length cb,.int .i64 y.E] 124)).alloc (.cells #[.int .i64 0,.slice none 0 0,.int .i64 0] 124)).heap.size = w.heap.size + 1 + 1 + 1 from by simp] at HBX
  obtain ⟨sg,hsg⟩ : ∃ sg : Int,sg = 1 := ⟨_,rfl⟩
  have HSGX := Lib.hid (HSG.out sg (.inl ⟨hsg,HXY.out⟩))
  have HSV : Hid (sg = 1 ∨ sg = -1) := .inl hsg
  generalize w.heap.size + 1 + 1 + 1 = B8 at *
  generalize (((w.alloc (.cells #[.int .i64 x.S,.slice ad x.D.length ca,.int .i64 x.E] 124)).alloc (.cells #[.int .i64 y.S,.slice bd y.D.length cb,.int .i64 y.E] 124)).alloc (.cells #[.int .i64 0,.slice none 0 0,.int .i64 0] 124)).alloc (.cells #[.int .i64 x.S,.slice none 0 0,.int .i64 f] 124) = W4 at *
  have HSQ : Hid (∀ (p q : Nat) (c : Int),p < BB → q < BB → -2 ≤ c ∧ c ≤ 2 → wrap64 (wrap64 ((p : Int) + wrap64 (q : Int)) + c) = p + sg * q + c) := fun p q c h1 h2 h3 => by
   rw [hsg]
   have := wrap_sum (p := p) (q := q) (.inl rfl) h1 h2 h3
   rwa [Int.one_mul] at this ⊢
  clear hsg hne HXY
  obtain ⟨hbx,hby,hbr,hbo,hbw,hb8,hb9⟩ := HBX
  clear HSZ hwx1 hwy1 hf ht hx0 hy0 HSG HRN
  have HX4 := Lib.hid hbx
  have HY4 := Lib.hid hby
  have HR4 := Lib.hid hbr
  have HBW := Lib.hid hbw
  have HB8 : Hid (w.heap.size + 1 + 1 < B8 ∧ B8 < W4.heap.size) := ⟨hb8,hb9⟩
  have HSTART : Hid (AddInv x y f sg W4 B8 W4 0 0 [] (.slice none 0 0)) := ⟨rfl,fun _ h => absurd h (by simp),by omega,by simp [mag,tot],World.ownsRow_nil _ _ _ _,hbo,Below.refl _ _⟩
  clear hbx hby hbr hbo hbw hb8 hb9
  go_loopw [9,10] (fun s9 s10 wr => ∃ (k : Nat) (c : Int) (l : List Nat) (v8 : Value),k ≤ n + 1 ∧ s9 = .int .i64 c ∧ s10 = .int .i64 (f + k) ∧ Hid (AddInv x y f sg W4 B8 wr k c l v8)) (fun _ s10 _ => (t + 1 - intOf s10).toNat)
  case atStart => exact ⟨0,0,[],_,Nat.zero_le _,rfl,by simp,HSTART.out⟩
  case round =>
   obtain ⟨k,c,l,v8,hk,rfl,rfl,HI⟩ := hrel
   by_cases hkt : k ≤ n
   ·have hle : f + (k : Int) ≤ t := by have := hn.out; omega
    have HBr : Hid (Below w.heap.size w wr) := HBW.out.trans (HI.out.low.mono (by have := HB8.out; omega))
    have HCB : Hid (∀ W,Below wr.heap.size wr W → (W.cell? ⟨w.heap.size,0,none⟩ = some (.int .i64 x.S) ∧ W.cell? ⟨w.heap.size,1,none⟩ = some (.slice ad x.D.length ca) ∧ W.cell? ⟨w.heap.size,2,none⟩ = some (.int .i64 x.E)) ∧ (W.cell? ⟨w.heap.size + 1,0,none⟩ = some (.int .i64 y.S) ∧ W.cell? ⟨w.heap.size + 1,1,none⟩ = some (.slice bd y.D.length cb) ∧ W.cell? ⟨w.heap.size + 1,2,none⟩ = some (.int .i64 y.E)) ∧ W.cell? ⟨B8,1,none⟩ = some v8) := fun W hb =>
     ⟨((HX4.out.low HI.out.low (by have := HB8.out; omega)).below hb).c,((HY4.out.low HI.out.low (by have := HB8.out; omega)).below hb).c,(HI.out.box.below hb).c.2.1⟩
    obtain ⟨p,hp⟩ : ∃ p,Hid (digP x (f + k) = p) := ⟨_,rfl⟩
    obtain ⟨q,hq⟩ : ∃ q,Hid (digP y (f + k) = q) := ⟨_,rfl⟩
    have hpb : p < BB := by rw [← hp.out]; exact digP_lt HWX.out.dig _
    have hqb : q < BB := by rw [← hq.out]; exact digP_lt HWY.out.dig _
    have hrange : -2000 ≤ f + (k : Int) ∧ f + (k : Int) ≤ 2000 := by have := HB.out; have := hn.out; have := HE.out; omega
    have HX : Hid (∀ W,Hid (Below wr.heap.size wr W) → Calls Tryz.prog 201 #[.agg #[.int .i64 x.S,.slice ad x.D.length ca,.int .i64 x.E],.int .i64 (f + k)] W fun r w' => r = .returned (.int .i64 (p : Nat)) ∧ Hid (Below wr.heap.size wr w') ∧ (w'.cell? ⟨w.heap.size,0,none⟩ = some (.int .i64 x.S) ∧ w'.cell? ⟨w.heap.size,1,none⟩ = some (.slice ad x.D.length ca) ∧ w'.cell? ⟨w.heap.size,2,none⟩ = some (.int .i64 x.E)) ∧ (w'.cell? ⟨w.heap.size + 1,0,none⟩ = some (.int .i64 y.S) ∧ w'.cell? ⟨w.heap.size + 1,1,none⟩ = some (.slice bd y.D.length cb) ∧ w'.cell? ⟨w.heap.size + 1,2,none⟩ = some (.int .i64 y.E)) ∧ w'.cell? ⟨B8,1,none⟩ = some v8) := by
     intro W hb
     refine (HDX.out W (HBr.out.trans (hb.out.mono HBr.out.size)) (f + k) hrange).mono ?_
     rintro r w' ⟨rfl,hb'⟩
     have hbb := hb.out.trans (hb'.mono hb.out.size)
     exact ⟨by rw [hp.out],hbb,HCB.out w' hbb⟩
    have HY : Hid (∀ W,Hid (Below wr.heap.size wr W) → Calls Tryz.prog 201 #[.agg #[.int .i64 y.S,.slice bd y.D.length cb,.int .i64 y.E],.int .i64 (f + k)] W fun r w' => r = .returned (.int .i64 (q : Nat)) ∧ Hid (Below wr.heap.size wr w') ∧ (w'.cell? ⟨w.heap.size,0,none⟩ = some (.int .i64 x.S) ∧ w'.cell? ⟨w.heap.size,1,none⟩ = some (.slice ad x.D.length ca) ∧ w'.cell? ⟨w.heap.size,2,none⟩ = some (.int .i64 x.E)) ∧ (w'.cell? ⟨w.heap.size + 1,0,none⟩ = some (.int .i64 y.S) ∧ w'.cell? ⟨w.heap.size + 1,1,none⟩ = some (.slice bd y.D.length cb) ∧ w'.cell? ⟨w.heap.size + 1,2,none⟩ = some (.int .i64 y.E)) ∧ w'.cell? ⟨B8,1,none⟩ = some v8) := by
     intro W hb
     refine (HDY.out W (HBr.out.trans (hb.out.mono HBr.out.size)) (f + k) hrange).mono ?_
     rintro r w' ⟨rfl,hb'⟩
     have hbb := hb.out.trans (hb'.mono hb.out.size)
     exact ⟨by rw [hq.out],hbb,HCB.out w' hbb⟩
    have n0 := HCB.out wr.drew (Below.refl _ _).drew
    have B0 : Hid (Below wr.heap.size wr wr.drew) := (Below.refl _ _).drew
    obtain ⟨v0,hv0⟩ : ∃ v0 : Int,Hid (p + sg * q + c = v0) := ⟨_,rfl⟩
    have hws := HSQ.out p q c hpb hqb HI.out.cr
    rw [hv0.out] at hws
    have HV0 : Hid (-2 * BB ≤ v0 ∧ v0 ≤ 2 * BB) := by
     have h1 := HI.out.cr
     have h2 := hv0.out
     have h3 := hpb
     have h4 := hqb
     rw [BB_eq] at h3 h4 ⊢
     unfold Hid
     rcases HSV.out with h | h
     ·rw [h] at h2; omega
     ·rw [h] at h2; omega
    clear hrange hpb hqb
    go_wp2
    rename (∀ (a : Act) (w : World),Code.wp _ _ _ a w → _) => hcA
    have HCA := Lib.hid (fun (_ : Unit) => hcA)
    clear hcA
    rename (∀ (a : Act) (w : World),Code.wp _ _ _ a w → _) => hcB
    have HCB2 := Lib.hid (fun (_ : Unit) => hcB)
    clear hcB
    repeat (rename (∀ (a : Act) (w : World),Code.wp _ _ _ a w → _) => ha; clear ha)
    go_region_held3 (fun w' => (w'.cell? ⟨w.heap.size,0,none⟩ = some (.int .i64 x.S) ∧ w'.cell? ⟨w.heap.size,1,none⟩ = some (.slice ad x.D.length ca) ∧ w'.cell? ⟨w.heap.size,2,none⟩ = some (.int .i64 x.E)) ∧ (w'.cell? ⟨w.heap.size + 1,0,none⟩ = some (.int .i64 y.S) ∧ w'.cell? ⟨w.heap.size + 1,1,none⟩ = some (.slice bd y.D.length cb) ∧ w'.cell? ⟨w.heap.size + 1,2,none⟩ = some (.int .i64 y.E)) ∧ w'.cell? ⟨B8,1,none⟩ = some v8) (first | assumption | exact n0)
     (first
      |(go_at_call 201; with_reducible refine (HX.out _ B0).mono ?_; rintro r w3 ⟨rfl,B3,n3⟩)
      |(go_at_call 201; with_reducible refine (HY.out _ B3).mono ?_; rintro r w4 ⟨rfl,BF,n4⟩)
      |(go_at_call 201; with_reducible refine (HY.out _ B0).mono ?_; rintro r w3 ⟨rfl,B3,n3⟩)
      |(go_at_call 201; with_reducible refine (HX.out _ B3).mono ?_; rintro r w4 ⟨rfl,BF,n4⟩))
    all_goals
     have hcA := HCA.out ()
     have hcB := HCB2.out ()
     simp only [IntWalk.i64_left]
     rw [hws]
     have HIf := Lib.hid (HI.out.below BF.out)
     clear HX HY n0 B0 n3 n4 B3 HCB HCA HCB2 BF HI HBr hws
     go_wp2
     go_loop [9,11] (fun s9 s11 => ∃ v c' : Int,s9 = .int .i64 c' ∧ s11 = .int .i64 v ∧ v + c' * 16777216 = v0 ∧ -2 ≤ c' ∧ c' ≤ 0 ∧ v ≤ 33554432 ∧ -33554432 ≤ v) (fun _ s11 => (-(intOf s11)).toNat)
     case atStart => exact ⟨v0,0,rfl,rfl,by omega,by omega,by omega,by have := HV0.out; rw [BB_eq] at this; omega,by have := HV0.out; rw [BB_eq] at this; omega⟩
     case round =>
      obtain ⟨v,c', rfl,rfl,hvc,hc1,hc2,hv1,hv2⟩ := hrel
      by_cases hv : v < 0
      ·have hwv : wrap64 (v + 16777216) = v + 16777216 := by unfold wrap64; omega
       have hwc : wrap64 (c' - 1) = c' - 1 := by unfold wrap64; omega
       go_wp2
       go_round
       case rel => exact ⟨v + 16777216,c' - 1,rfl,rfl,by omega,by have := HV0.out; rw [BB_eq] at this; omega,by omega,by omega,by omega⟩
       case measure => simp only [intOf]; omega
      ·go_wp2
       go_loop [9,11] (fun s9 s11 => ∃ v c' : Int,s9 = .int .i64 c' ∧ s11 = .int .i64 v ∧ v + c' * 16777216 = v0 ∧ -2 ≤ c' ∧ c' ≤ 2 ∧ 0 ≤ v ∧ v ≤ 33554432) (fun _ s11 => (intOf s11).toNat)
       case atStart => exact ⟨v,c', rfl,rfl,hvc,hc1,by omega,by omega,hv1⟩
       case round =>
        clear hvc hc1 hc2 hv1 hv2 hv
        obtain ⟨v,c', rfl,rfl,hvc,hc1,hc2,hv1,hv2⟩ := hrel
        by_cases hv : 16777216 ≤ v
        ·have hwv : wrap64 (v - 16777216) = v - 16777216 := by unfold wrap64; omega
         have hwc : wrap64 (c' + 1) = c' + 1 := by unfold wrap64; omega
         go_wp2
         go_round
         case rel => exact ⟨v - 16777216,c' + 1,rfl,rfl,by omega,by omega,by have := HV0.out; rw [BB_eq] at this; omega,by omega,by omega⟩
         case measure => simp only [intOf]; omega
        ·obtain ⟨d,rfl⟩ : ∃ d : Nat,v = d := ⟨v.toNat,by omega⟩
         have HVD : Hid ((d : Int) + c' * 16777216 = digP x (f + k) + sg * digP y (f + k) + c) := by unfold Hid; rw [hp.out,hq.out,hvc,hv0.out]
         have HDB : Hid (d < BB) := by unfold Hid; rw [BB_eq]; omega
         have HCR : Hid (-2 ≤ c' ∧ c' ≤ 2) := ⟨hc1,hc2⟩
         have b1 := HIf.out.box.c.2.1
         have b1a := fun o => (HIf.out.box.al o).c.2.1
         have hwk : wrap64 (f + (k : Int) + 1) = f + ((k + 1 : Nat) : Int) := by have := HB.out; have := hn.out; have := HE.out; unfold wrap64; omega
         clear hvc hc1 hc2 hv1 hv2
         go_wp2_with (at_builtin; refine wpList_append_own _ rfl _ _ 122 rfl (B8 + 1) 2 i0 (.int .i64 0) 1 8 Tryz.underlying122 hi hz0 hz1 hz2 rfl (by decide) v8 l.length (dC l) rfl (HIf.out.own.alloc _) ⟨w4.heap.size,0,none⟩ 1 1 [.int .i64 (d : Nat)] rfl rfl (cells_new w4 [.int .i64 (d : Nat)] 2) (fun u hu => by simp at hu; subst hu; rfl) (by have := HIf.out.len; have := HB.out; have := hn.out; have := HE.out; unfold maxLen; omega) (by have := HIf.out.len; have := HB.out; have := hn.out; have := HE.out; omega) (by have := HIf.out.box.lt; simp; omega) ?_)
         intro v' w2 hown hgrow _
         obtain ⟨g9,cap9,rfl⟩ : ∃ g9 cap9,v' = .slice (some ⟨g9,0,none⟩) (l.length + 1) cap9 := by
          rcases hown.2 with ⟨_,h0⟩ | ⟨g9,c9,cur,rfl,_⟩
          ·omega
          ·exact ⟨g9,c9,rfl⟩
         have HPU := Lib.hid (HIf.out.push HDB.out HCR.out HVD.out hown hgrow)
         have c1 := HPU.out.2.c.2.1
         have cf := HPU.out.2.fz 1
         clear hown hgrow b1 b1a
         go_wp2
         go_roundw
         case rel => exact ⟨k + 1,c', l ++ [d],_,by omega,rfl,by rw [hwk],HPU.out.1⟩
         case measure => simp only [intOf]; omega
   ·have hkn : k = n + 1 := by omega
    subst hkn
    have hle : ¬f + ((n + 1 : Nat) : Int) ≤ t := by have := hn.out; omega
    have HBr : Hid (Below w.heap.size w wr) := HBW.out.trans (HI.out.low.mono (by have := HB8.out; omega))
    have HVAL : Hid (nv ⟨x.S,l,f⟩ = nv x + nv y) := nadd_val HB.out.1 HB.out.2.1 HB.out.2.2.1 HB.out.2.2.2.1 hn.out (by have := HB.out; have := HE.out; omega) HWX.out HWY.out HSGX.out HI.out.len HI.out.dig HI.out.cr HI.out.sum
    obtain ⟨b0,b1,b2⟩ := HI.out.box.c
    have HRW := Lib.hid ((HR4.out.low HI.out.low (by have := HB8.out; omega)))
    obtain ⟨ad8,cap8,rfl,hcap8,hda⟩ := own_digits HI.out.own
    have HT : Hid (Calls Tryz.prog 162 #[.agg #[.int .i64 x.S,.slice ad8 l.length cap8,.int .i64 f]] wr fun r w' => ∃ (z : NumP) (az : Option Addr) (cz : Nat),r = .returned (.agg #[.int .i64 z.S,.slice az z.D.length cz,.int .i64 z.E]) ∧ Hid ((DAt w' az z.D ∧ z.D.length ≤ cz) ∧ Wf z ∧ nv z = nv x + nv y ∧ Rng (e + 1) z ∧ Below wr.heap.size wr w')) := by
     have hlen := HI.out.len
     refine (trim_walk (x := ⟨x.S,l,f⟩) (e := e + 1) hda hcap8 HE.out ⟨by have := HB.out; show -((e + 1 : Nat) : Int) ≤ f; omega,by have := HB.out; have := hn.out; show f + (l.length : Int) ≤ ((e + 1 : Nat) : Int); omega⟩ HI.out.dig HXS.out).mono ?_
     rintro r w' ⟨z,v,rfl,h1,h2,h3,h4,h5⟩
     obtain ⟨az,cz,rfl,h6,h7⟩ := h1.ex
     exact ⟨z,az,cz,rfl,⟨h6,h7⟩,h2,h3.trans HVAL.out,h4,h5⟩
    clear hda hcap8
    go_wp2_with (go_at_call 162; refine HT.out.mono ?_; rintro r w5 ⟨z,az,cz,rfl,H5⟩; have R5 := Lib.hid (HRW.out.below H5.out.2.2.2.2); obtain ⟨r0,r1,r2⟩ := R5.out.c; have g0 := R5.out.fz 0; have g1 := R5.out.fz 1; have g2 := R5.out.fz 2)
    obtain ⟨f0,f1,f2⟩ := (R5.out.put (.int .i64 z.S) (.slice az z.D.length cz) (.int .i64 z.E)).c
    refine bodyPost_ret (by simp [results,Tryz.results160,go_sem,f0,f1,f2]; try rfl) rfl ?_
    exact ⟨z,_,rfl,⟨az,cz,rfl,H5.out.1.1.put H5.out.2.1.lead R5.out _ _ _,H5.out.1.2⟩,H5.out.2.1,H5.out.2.2.1,H5.out.2.2.2.1,put_below (HBr.out.trans (H5.out.2.2.2.2.mono HBr.out.size)) (by omega) _ _ _⟩
 ·have hRn := HRN.out hxy
  have hne : (x.S != y.S) = true := by simpa using hxy
  go_enter Tryz.func160,Tryz.ntmps160
  go_wp2_with (go_at_call 200; refine (HSZ.out _ ((((Below.refl _ w).alloc (Nat.le_refl _) _).alloc (by simp) _).alloc (by simp; omega) _)).mono ?_; rintro r w1 ⟨rfl,hb1⟩; have HBX := boxes4 (.int .i64 x.S) (.slice ad x.D.length ca) (.int .i64 x.E) (.int .i64 y.S) (.slice bd y.D.length cb) (.int .i64 y.E) (.int .i64 0) (.slice none 0 0) (.int .i64 0) (.int .i64 x.S) (.slice none 0 0) (.int .i64 f) 124 hb1; obtain ⟨X3,Y3,_⟩ := boxes3 (.int .i64 x.S) (.slice ad x.D.length ca) (.int .i64 x.E) (.int .i64 y.S) (.slice bd y.D.length cb) (.int .i64 y.E) (.int .i64 0) (.slice none 0 0) (.int .i64 0) 124 hb1; obtain ⟨x0,x1,x2⟩ := X3.c; obtain ⟨y0,y1,y2⟩ := Y3.c; clear X3 Y3 hb1)
  clear x0 x1 x2 y0 y1 y2
  obtain ⟨sg,hsg⟩ : ∃ sg : Int,sg = -1 := ⟨_,rfl⟩
  have HSGX := Lib.hid (HSG.out sg (.inr ⟨hsg,hxy⟩))
  have HSV : Hid (sg = 1 ∨ sg = -1) := .inr hsg
  generalize w1.alloc (.cells #[.int .i64 x.S,.slice none 0 0,.int .i64 f] 124) = W4 at *
  generalize w1.heap.size = B8 at *
  have HSQ : Hid (∀ (p q : Nat) (c : Int),p < BB → q < BB → -2 ≤ c ∧ c ≤ 2 → wrap64 (wrap64 ((p : Int) + wrap64 (-(q : Int))) + c) = p + sg * q + c) := fun p q c h1 h2 h3 => by
   rw [hsg]
   have := wrap_sum (p := p) (q := q) (.inr rfl) h1 h2 h3
   rwa [Int.neg_one_mul] at this ⊢
  clear hsg hxy hRn hne
  obtain ⟨hbx,hby,hbr,hbo,hbw,hb8,hb9⟩ := HBX
  clear HSZ hwx1 hwy1 hf ht hx0 hy0 HSG HRN
  have HX4 := Lib.hid hbx
  have HY4 := Lib.hid hby
  have HR4 := Lib.hid hbr
  have HBW := Lib.hid hbw
  have HB8 : Hid (w.heap.size + 1 + 1 < B8 ∧ B8 < W4.heap.size) := ⟨hb8,hb9⟩
  have HSTART : Hid (AddInv x y f sg W4 B8 W4 0 0 [] (.slice none 0 0)) := ⟨rfl,fun _ h => absurd h (by simp),by omega,by simp [mag,tot],World.ownsRow_nil _ _ _ _,hbo,Below.refl _ _⟩
  clear hbx hby hbr hbo hbw hb8 hb9
  go_loopw [9,10] (fun s9 s10 wr => ∃ (k : Nat) (c : Int) (l : List Nat) (v8 : Value),k ≤ n + 1 ∧ s9 = .int .i64 c ∧ s10 = .int .i64 (f + k) ∧ Hid (AddInv x y f sg W4 B8 wr k c l v8)) (fun _ s10 _ => (t + 1 - intOf s10).toNat)
  case atStart => exact ⟨0,0,[],_,Nat.zero_le _,rfl,by simp,HSTART.out⟩
  case round =>
   obtain ⟨k,c,l,v8,hk,rfl,rfl,HI⟩ := hrel
   by_cases hkt : k ≤ n
   ·have hle : f + (k : Int) ≤ t := by have := hn.out; omega
    have HBr : Hid (Below w.heap.size w wr) := HBW.out.trans (HI.out.low.mono (by have := HB8.out; omega))
    have HCB : Hid (∀ W,Below wr.heap.size wr W → (W.cell? ⟨w.heap.size,0,none⟩ = some (.int .i64 x.S) ∧ W.cell? ⟨w.heap.size,1,none⟩ = some (.slice ad x.D.length ca) ∧ W.cell? ⟨w.heap.size,2,none⟩ = some (.int .i64 x.E)) ∧ (W.cell? ⟨w.heap.size + 1,0,none⟩ = some (.int .i64 y.S) ∧ W.cell? ⟨w.heap.size + 1,1,none⟩ = some (.slice bd y.D.length cb) ∧ W.cell? ⟨w.heap.size + 1,2,none⟩ = some (.int .i64 y.E)) ∧ W.cell? ⟨B8,1,none⟩ = some v8) := fun W hb =>
     ⟨((HX4.out.low HI.out.low (by have := HB8.out; omega)).below hb).c,((HY4.out.low HI.out.low (by have := HB8.out; omega)).below hb).c,(HI.out.box.below hb).c.2.1⟩
    obtain ⟨p,hp⟩ : ∃ p,Hid (digP x (f + k) = p) := ⟨_,rfl⟩
    obtain ⟨q,hq⟩ : ∃ q,Hid (digP y (f + k) = q) := ⟨_,rfl⟩
    have hpb : p < BB := by rw [← hp.out]; exact digP_lt HWX.out.dig _
    have hqb : q < BB := by rw [← hq.out]; exact digP_lt HWY.out.dig _
    have hrange : -2000 ≤ f + (k : Int) ∧ f + (k : Int) ≤ 2000 := by have := HB.out; have := hn.out; have := HE.out; omega
    have HX : Hid (∀ W,Hid (Below wr.heap.size wr W) → Calls Tryz.prog 201 #[.agg #[.int .i64 x.S,.slice ad x.D.length ca,.int .i64 x.E],.int .i64 (f + k)] W fun r w' => r = .returned (.int .i64 (p : Nat)) ∧ Hid (Below wr.heap.size wr w') ∧ (w'.cell? ⟨w.heap.size,0,none⟩ = some (.int .i64 x.S) ∧ w'.cell? ⟨w.heap.size,1,none⟩ = some (.slice ad x.D.length ca) ∧ w'.cell? ⟨w.heap.size,2,none⟩ = some (.int .i64 x.E)) ∧ (w'.cell? ⟨w.heap.size + 1,0,none⟩ = some (.int .i64 y.S) ∧ w'.cell? ⟨w.heap.size + 1,1,none⟩ = some (.slice bd y.D.length cb) ∧ w'.cell? ⟨w.heap.size + 1,2,none⟩ = some (.int .i64 y.E)) ∧ w'.cell? ⟨B8,1,none⟩ = some v8) := by
     intro W hb
     refine (HDX.out W (HBr.out.trans (hb.out.mono HBr.out.size)) (f + k) hrange).mono ?_
     rintro r w' ⟨rfl,hb'⟩
     have hbb := hb.out.trans (hb'.mono hb.out.size)
     exact ⟨by rw [hp.out],hbb,HCB.out w' hbb⟩
    have HY : Hid (∀ W,Hid (Below wr.heap.size wr W) → Calls Tryz.prog 201 #[.agg #[.int .i64 y.S,.slice bd y.D.length cb,.int .i64 y.E],.int .i64 (f + k)] W fun r w' => r = .returned (.int .i64 (q : Nat)) ∧ Hid (Below wr.heap.size wr w') ∧ (w'.cell? ⟨w.heap.size,0,none⟩ = some (.int .i64 x.S) ∧ w'.cell? ⟨w.heap.size,1,none⟩ = some (.slice ad x.D.length ca) ∧ w'.cell? ⟨w.heap.size,2,none⟩ = some (.int .i64 x.E)) ∧ (w'.cell? ⟨w.heap.size + 1,0,none⟩ = some (.int .i64 y.S) ∧ w'.cell? ⟨w.heap.size + 1,1,none⟩ = some (.slice bd y.D.length cb) ∧ w'.cell? ⟨w.heap.size + 1,2,none⟩ = some (.int .i64 y.E)) ∧ w'.cell? ⟨B8,1,none⟩ = some v8) := by
     intro W hb
     refine (HDY.out W (HBr.out.trans (hb.out.mono HBr.out.size)) (f + k) hrange).mono ?_
     rintro r w' ⟨rfl,hb'⟩
     have hbb := hb.out.trans (hb'.mono hb.out.size)
     exact ⟨by rw [hq.out],hbb,HCB.out w' hbb⟩
    have n0 := HCB.out wr.drew (Below.refl _ _).drew
    have B0 : Hid (Below wr.heap.size wr wr.drew) := (Below.refl _ _).drew
    obtain ⟨v0,hv0⟩ : ∃ v0 : Int,Hid (p + sg * q + c = v0) := ⟨_,rfl⟩
    have hws := HSQ.out p q c hpb hqb HI.out.cr
    rw [hv0.out] at hws
    have HV0 : Hid (-2 * BB ≤ v0 ∧ v0 ≤ 2 * BB) := by
     have h1 := HI.out.cr
     have h2 := hv0.out
     have h3 := hpb
     have h4 := hqb
     rw [BB_eq] at h3 h4 ⊢
     unfold Hid
     rcases HSV.out with h | h
     ·rw [h] at h2; omega
     ·rw [h] at h2; omega
    clear hrange hpb hqb
    go_wp2
    rename (∀ (a : Act) (w : World),Code.wp _ _ _ a w → _) => hcA
    have HCA := Lib.hid (fun (_ : Unit) => hcA)
    clear hcA
    rename (∀ (a : Act) (w : World),Code.wp _ _ _ a w → _) => hcB
    have HCB2 := Lib.hid (fun (_ : Unit) => hcB)
    clear hcB
    repeat (rename (∀ (a : Act) (w : World),Code.wp _ _ _ a w → _) => ha; clear ha)
    go_region_held3 (fun w' => (w'.cell? ⟨w.heap.size,0,none⟩ = some (.int .i64 x.S) ∧ w'.cell? ⟨w.heap.size,1,none⟩ = some (.slice ad x.D.length ca) ∧ w'.cell? ⟨w.heap.size,2,none⟩ = some (.int .i64 x.E)) ∧ (w'.cell? ⟨w.heap.size + 1,0,none⟩ = some (.int .i64 y.S) ∧ w'.cell? ⟨w.heap.size + 1,1,none⟩ = some (.slice bd y.D.length cb) ∧ w'.cell? ⟨w.heap.size + 1,2,none⟩ = some (.int .i64 y.E)) ∧ w'.cell? ⟨B8,1,none⟩ = some v8) (first | assumption | exact n0)
     (first
      |(go_at_call 201; with_reducible refine (HX.out _ B0).mono ?_; rintro r w3 ⟨rfl,B3,n3⟩)
      |(go_at_call 201; with_reducible refine (HY.out _ B3).mono ?_; rintro r w4 ⟨rfl,BF,n4⟩)
      |(go_at_call 201; with_reducible refine (HY.out _ B0).mono ?_; rintro r w3 ⟨rfl,B3,n3⟩)
      |(go_at_call 201; with_reducible refine (HX.out _ B3).mono ?_; rintro r w4 ⟨rfl,BF,n4⟩))
    all_goals
     have hcA := HCA.out ()
     have hcB := HCB2.out ()
     simp only [IntWalk.i64_left]
     rw [hws]
     have HIf := Lib.hid (HI.out.below BF.out)
     clear HX HY n0 B0 n3 n4 B3 HCB HCA HCB2 BF HI HBr hws
     go_wp2
     go_loop [9,11] (fun s9 s11 => ∃ v c' : Int,s9 = .int .i64 c' ∧ s11 = .int .i64 v ∧ v + c' * 16777216 = v0 ∧ -2 ≤ c' ∧ c' ≤ 0 ∧ v ≤ 33554432 ∧ -33554432 ≤ v) (fun _ s11 => (-(intOf s11)).toNat)
     case atStart => exact ⟨v0,0,rfl,rfl,by omega,by omega,by omega,by have := HV0.out; rw [BB_eq] at this; omega,by have := HV0.out; rw [BB_eq] at this; omega⟩
     case round =>
      obtain ⟨v,c', rfl,rfl,hvc,hc1,hc2,hv1,hv2⟩ := hrel
      by_cases hv : v < 0
      ·have hwv : wrap64 (v + 16777216) = v + 16777216 := by unfold wrap64; omega
       have hwc : wrap64 (c' - 1) = c' - 1 := by unfold wrap64; omega
       go_wp2
       go_round
       case rel => exact ⟨v + 16777216,c' - 1,rfl,rfl,by omega,by have := HV0.out; rw [BB_eq] at this; omega,by omega,by omega,by omega⟩
       case measure => simp only [intOf]; omega
      ·go_wp2
       go_loop [9,11] (fun s9 s11 => ∃ v c' : Int,s9 = .int .i64 c' ∧ s11 = .int .i64 v ∧ v + c' * 16777216 = v0 ∧ -2 ≤ c' ∧ c' ≤ 2 ∧ 0 ≤ v ∧ v ≤ 33554432) (fun _ s11 => (intOf s11).toNat)
       case atStart => exact ⟨v,c', rfl,rfl,hvc,hc1,by omega,by omega,hv1⟩
       case round =>
        clear hvc hc1 hc2 hv1 hv2 hv
        obtain ⟨v,c', rfl,rfl,hvc,hc1,hc2,hv1,hv2⟩ := hrel
        by_cases hv : 16777216 ≤ v
        ·have hwv : wrap64 (v - 16777216) = v - 16777216 := by unfold wrap64; omega
         have hwc : wrap64 (c' + 1) = c' + 1 := by unfold wrap64; omega
         go_wp2
         go_round
         case rel => exact ⟨v - 16777216,c' + 1,rfl,rfl,by omega,by omega,by have := HV0.out; rw [BB_eq] at this; omega,by omega,by omega⟩
         case measure => simp only [intOf]; omega
        ·obtain ⟨d,rfl⟩ : ∃ d : Nat,v = d := ⟨v.toNat,by omega⟩
         have HVD : Hid ((d : Int) + c' * 16777216 = digP x (f + k) + sg * digP y (f + k) + c) := by unfold Hid; rw [hp.out,hq.out,hvc,hv0.out]
         have HDB : Hid (d < BB) := by unfold Hid; rw [BB_eq]; omega
         have HCR : Hid (-2 ≤ c' ∧ c' ≤ 2) := ⟨hc1,hc2⟩
         have b1 := HIf.out.box.c.2.1
         have b1a := fun o => (HIf.out.box.al o).c.2.1
         have hwk : wrap64 (f + (k : Int) + 1) = f + ((k + 1 : Nat) : Int) := by have := HB.out; have := hn.out; have := HE.out; unfold wrap64; omega
         clear hvc hc1 hc2 hv1 hv2
         go_wp2_with (at_builtin; refine wpList_append_own _ rfl _ _ 122 rfl (B8 + 1) 2 i0 (.int .i64 0) 1 8 Tryz.underlying122 hi hz0 hz1 hz2 rfl (by decide) v8 l.length (dC l) rfl (HIf.out.own.alloc _) ⟨w4.heap.size,0,none⟩ 1 1 [.int .i64 (d : Nat)] rfl rfl (cells_new w4 [.int .i64 (d : Nat)] 2) (fun u hu => by simp at hu; subst hu; rfl) (by have := HIf.out.len; have := HB.out; have := hn.out; have := HE.out; unfold maxLen; omega) (by have := HIf.out.len; have := HB.out; have := hn.out; have := HE.out; omega) (by have := HIf.out.box.lt; simp; omega) ?_)
         intro v' w2 hown hgrow _
         obtain ⟨g9,cap9,rfl⟩ : ∃ g9 cap9,v' = .slice (some ⟨g9,0,none⟩) (l.length + 1) cap9 := by
          rcases hown.2 with ⟨_,h0⟩ | ⟨g9,c9,cur,rfl,_⟩
          ·omega
          ·exact ⟨g9,c9,rfl⟩
         have HPU := Lib.hid (HIf.out.push HDB.out HCR.out HVD.out hown hgrow)
         have c1 := HPU.out.2.c.2.1
         have cf := HPU.out.2.fz 1
         clear hown hgrow b1 b1a
         go_wp2
         go_roundw
         case rel => exact ⟨k + 1,c', l ++ [d],_,by omega,rfl,by rw [hwk],HPU.out.1⟩
         case measure => simp only [intOf]; omega
   ·have hkn : k = n + 1 := by omega
    subst hkn
    have hle : ¬f + ((n + 1 : Nat) : Int) ≤ t := by have := hn.out; omega
    have HBr : Hid (Below w.heap.size w wr) := HBW.out.trans (HI.out.low.mono (by have := HB8.out; omega))
    have HVAL : Hid (nv ⟨x.S,l,f⟩ = nv x + nv y) := nadd_val HB.out.1 HB.out.2.1 HB.out.2.2.1 HB.out.2.2.2.1 hn.out (by have := HB.out; have := HE.out; omega) HWX.out HWY.out HSGX.out HI.out.len HI.out.dig HI.out.cr HI.out.sum
    obtain ⟨b0,b1,b2⟩ := HI.out.box.c
    have HRW := Lib.hid ((HR4.out.low HI.out.low (by have := HB8.out; omega)))
    obtain ⟨ad8,cap8,rfl,hcap8,hda⟩ := own_digits HI.out.own
    have HT : Hid (Calls Tryz.prog 162 #[.agg #[.int .i64 x.S,.slice ad8 l.length cap8,.int .i64 f]] wr fun r w' => ∃ (z : NumP) (az : Option Addr) (cz : Nat),r = .returned (.agg #[.int .i64 z.S,.slice az z.D.length cz,.int .i64 z.E]) ∧ Hid ((DAt w' az z.D ∧ z.D.length ≤ cz) ∧ Wf z ∧ nv z = nv x + nv y ∧ Rng (e + 1) z ∧ Below wr.heap.size wr w')) := by
     have hlen := HI.out.len
     refine (trim_walk (x := ⟨x.S,l,f⟩) (e := e + 1) hda hcap8 HE.out ⟨by have := HB.out; show -((e + 1 : Nat) : Int) ≤ f; omega,by have := HB.out; have := hn.out; show f + (l.length : Int) ≤ ((e + 1 : Nat) : Int); omega⟩ HI.out.dig HXS.out).mono ?_
     rintro r w' ⟨z,v,rfl,h1,h2,h3,h4,h5⟩
     obtain ⟨az,cz,rfl,h6,h7⟩ := h1.ex
     exact ⟨z,az,cz,rfl,⟨h6,h7⟩,h2,h3.trans HVAL.out,h4,h5⟩
    clear hda hcap8
    go_wp2_with (go_at_call 162; refine HT.out.mono ?_; rintro r w5 ⟨z,az,cz,rfl,H5⟩; have R5 := Lib.hid (HRW.out.below H5.out.2.2.2.2); obtain ⟨r0,r1,r2⟩ := R5.out.c; have g0 := R5.out.fz 0; have g1 := R5.out.fz 1; have g2 := R5.out.fz 2)
    obtain ⟨f0,f1,f2⟩ := (R5.out.put (.int .i64 z.S) (.slice az z.D.length cz) (.int .i64 z.E)).c
    refine bodyPost_ret (by simp [results,Tryz.results160,go_sem,f0,f1,f2]; try rfl) rfl ?_
    exact ⟨z,_,rfl,⟨az,cz,rfl,H5.out.1.1.put H5.out.2.1.lead R5.out _ _ _,H5.out.1.2⟩,H5.out.2.1,H5.out.2.2.1,H5.out.2.2.2.1,put_below (HBr.out.trans (H5.out.2.2.2.2.mono HBr.out.size)) (by omega) _ _ _⟩
theorem nv_s0 {x : NumP} (h : x.S = 0) : nv x = 0 := by unfold nv; rw [h,Int.zero_mul]
theorem Rng.up {e e' : Nat} {x : NumP} (h : Rng e x) (he : e ≤ e') : Rng e' x := ⟨by have := h.lo; omega,by have := h.hi; omega⟩
theorem nadd_zero {x y : NumP} {ad bd : Option Addr} {ca cb e : Nat} {w : World} (hdx : DAt w ad x.D) (hdy : DAt w bd y.D) (hca : x.D.length ≤ ca) (hcb : y.D.length ≤ cb) (hrx : Rng e x) (hry : Rng e y) (hwx : Wf x) (hwy : Wf y) (h0 : x.S = 0 ∨ (x.S ≠ 0 ∧ y.S = 0)) :
  Calls Tryz.prog 160 #[NumA x ad ca,NumA y bd cb] w fun r w' => ∃ z v,r = .returned v ∧ NumV w' v z ∧ Wf z ∧ nv z = nv x + nv y ∧ Rng (e + 1) z ∧ Below w.heap.size w w' := by
 have HB3 : Hid (∀ o1 o2 o3,Below w.heap.size w (((w.alloc o1).alloc o2).alloc o3)) := fun o1 o2 o3 => (((Below.refl _ w).alloc (Nat.le_refl _) o1).alloc (by simp) o2).alloc (by simp; omega) o3
 have HDX : Hid (∀ o1 o2 o3,DAt (((w.alloc o1).alloc o2).alloc o3) ad x.D) := fun o1 o2 o3 => hdx.below (HB3.out o1 o2 o3)
 have HDY : Hid (∀ o1 o2 o3,DAt (((w.alloc o1).alloc o2).alloc o3) bd y.D) := fun o1 o2 o3 => hdy.below (HB3.out o1 o2 o3)
 have HWX := Lib.hid hwx
 have HWY := Lib.hid hwy
 have HRX := Lib.hid (hrx.up (Nat.le_succ e))
 have HRY := Lib.hid (hry.up (Nat.le_succ e))
 have HCA := Lib.hid hca
 have HCB := Lib.hid hcb
 unfold NumA at *
 clear hdx hdy hca hcb hrx hry hwx hwy
 rcases h0 with hx0 | ⟨hx0,hy0⟩
 ·have HS : Hid (x.S = 0) := hx0
  go_enter Tryz.func160,Tryz.ntmps160
  go_wp2
  go_returns
  exact ⟨y,_,rfl,⟨bd,cb,rfl,HDY.out _ _ _,HCB.out⟩,HWY.out,by rw [nv_s0 HS.out]; omega,HRY.out,HB3.out _ _ _⟩
 ·have HS : Hid (y.S = 0) := hy0
  go_enter Tryz.func160,Tryz.ntmps160
  go_wp2
  go_returns
  exact ⟨x,_,rfl,⟨ad,ca,rfl,HDX.out _ _ _,HCA.out⟩,HWX.out,by rw [nv_s0 HS.out]; omega,HRX.out,HB3.out _ _ _⟩
theorem nadd_main2 {x y : NumP} {ad bd : Option Addr} {ca cb e : Nat} {w : World} (hdx : DAt w ad x.D) (hdy : DAt w bd y.D) (he : e + 1 ≤ 190) (hrx : Rng e x) (hry : Rng e y) (hwx : Wf x) (hwy : Wf y) (hx0 : x.S ≠ 0) (hy0 : y.S ≠ 0) (hm : x.S = y.S ∨ mv y ≤ mv x) :
  Calls Tryz.prog 160 #[NumA x ad ca,NumA y bd cb] w fun r w' => ∃ z az cz,r = .returned (.agg #[.int .i64 z.S,.slice az z.D.length cz,.int .i64 z.E]) ∧ Hid ((DAt w' az z.D ∧ z.D.length ≤ cz) ∧ Wf z ∧ nv z = nv x + nv y ∧ Rng (e + 1) z ∧ Below w.heap.size w w') := by
 refine (nadd_main hdx hdy he hrx hry hwx hwy hx0 hy0 hm).mono ?_
 rintro r w' ⟨z,v,rfl,h1,h2,h3,h4,h5⟩
 obtain ⟨az,cz,rfl,h6,h7⟩ := h1.ex
 exact ⟨z,az,cz,rfl,⟨h6,h7⟩,h2,h3,h4,h5⟩
theorem nadd_swap {x y : NumP} {ad bd : Option Addr} {ca cb e : Nat} {w : World} (hdx : DAt w ad x.D) (hdy : DAt w bd y.D) (he : e + 1 ≤ 190) (hrx : Rng e x) (hry : Rng e y) (hwx : Wf x) (hwy : Wf y) (hx0 : x.S ≠ 0) (hy0 : y.S ≠ 0) (hne : x.S ≠ y.S) (hm : mv x < mv y) :
  Calls Tryz.prog 160 #[NumA x ad ca,NumA y bd cb] w fun r w' => ∃ z v,r = .returned v ∧ NumV w' v z ∧ Wf z ∧ nv z = nv x + nv y ∧ Rng (e + 1) z ∧ Below w.heap.size w w' := by
 have HSZ : Hid (∀ W,Below w.heap.size w W → Calls Tryz.prog 200 #[NumA x ad ca,NumA y bd cb] W fun r w' => r = .returned (.int .i64 (-1)) ∧ Below W.heap.size W w') := fun W hb => by
  have := size_walk (ca := ca) (cb := cb) (hdx.below hb) (hdy.below hb) (hrx.up (show e ≤ 190 by omega)) (hry.up (show e ≤ 190 by omega)) hwx hwy
  rw [sgnI_lt (by omega)] at this
  exact this
 have HAD : Hid (∀ W,Below w.heap.size w W → Calls Tryz.prog 160 #[NumA y bd cb,NumA x ad ca] W fun r w' => ∃ z az cz,r = .returned (.agg #[.int .i64 z.S,.slice az z.D.length cz,.int .i64 z.E]) ∧ Hid ((DAt w' az z.D ∧ z.D.length ≤ cz) ∧ Wf z ∧ nv z = nv x + nv y ∧ Rng (e + 1) z ∧ Below W.heap.size W w')) := fun W hb => by
  refine (nadd_main2 (hdy.below hb) (hdx.below hb) he hry hrx hwy hwx hy0 hx0 (.inr (Nat.le_of_lt hm))).mono ?_
  rintro r w' ⟨z,az,cz,rfl,h1,h2,h3,h4,h5⟩
  exact ⟨z,az,cz,rfl,h1,h2,by rw [h3]; omega,h4,h5⟩
 have hnb : (x.S != y.S) = true := by simpa using hne
 have B3 : Hid (Below w.heap.size w (((w.alloc (.cells #[.int .i64 x.S,.slice ad x.D.length ca,.int .i64 x.E] 124)).alloc (.cells #[.int .i64 y.S,.slice bd y.D.length cb,.int .i64 y.E] 124)).alloc (.cells #[.int .i64 0,.slice none 0 0,.int .i64 0] 124))) := (((Below.refl _ w).alloc (Nat.le_refl _) _).alloc (by simp) _).alloc (by simp; omega) _
 unfold NumA at *
 clear hdx hdy he hrx hry hwx hwy hne hm
 go_enter Tryz.func160,Tryz.ntmps160
 go_wp2_with (first
  |(go_at_call 200; (with_reducible refine (HSZ.out _ B3.out).mono ?_); rintro r w1 ⟨rfl,hb1⟩; obtain ⟨hbx,hby,hbr,hbw,_⟩ := boxes3 (w := w) (.int .i64 x.S) (.slice ad x.D.length ca) (.int .i64 x.E) (.int .i64 y.S) (.slice bd y.D.length cb) (.int .i64 y.E) (.int .i64 0) (.slice none 0 0) (.int .i64 0) 124 hb1; have HBR := Lib.hid hbr; have HBW := Lib.hid hbw; obtain ⟨x0,x1,x2⟩ := hbx.c; obtain ⟨y0,y1,y2⟩ := hby.c)
  |(go_at_call 160; (with_reducible refine (HAD.out _ HBW.out).mono ?_); rintro r w2 ⟨z,az,cz,rfl,H2⟩; have R2 := Lib.hid (HBR.out.below H2.out.2.2.2.2); obtain ⟨r0,r1,r2⟩ := R2.out.c; have g0 := R2.out.fz 0; have g1 := R2.out.fz 1; have g2 := R2.out.fz 2))
 obtain ⟨f0,f1,f2⟩ := (R2.out.put (.int .i64 z.S) (.slice az z.D.length cz) (.int .i64 z.E)).c
 refine bodyPost_ret (by simp [results,Tryz.results160,go_sem,f0,f1,f2]; try rfl) rfl ?_
 exact ⟨z,_,rfl,⟨az,cz,rfl,H2.out.1.1.put H2.out.2.1.lead R2.out _ _ _,H2.out.1.2⟩,H2.out.2.1,H2.out.2.2.1,H2.out.2.2.2.1,put_below (HBW.out.trans (H2.out.2.2.2.2.mono HBW.out.size)) (by omega) _ _ _⟩
theorem nadd_walk {x y : NumP} {ad bd : Option Addr} {ca cb e : Nat} {w : World} (hdx : DAt w ad x.D) (hdy : DAt w bd y.D) (hca : x.D.length ≤ ca) (hcb : y.D.length ≤ cb) (he : e + 1 ≤ 190) (hrx : Rng e x) (hry : Rng e y) (hwx : Wf x) (hwy : Wf y) :
  Calls Tryz.prog 160 #[NumA x ad ca,NumA y bd cb] w fun r w' => ∃ z v,r = .returned v ∧ NumV w' v z ∧ Wf z ∧ nv z = nv x + nv y ∧ Rng (e + 1) z ∧ Below w.heap.size w w' := by
 by_cases hx0 : x.S = 0
 ·exact nadd_zero hdx hdy hca hcb hrx hry hwx hwy (.inl hx0)
 ·by_cases hy0 : y.S = 0
  ·exact nadd_zero hdx hdy hca hcb hrx hry hwx hwy (.inr ⟨hx0,hy0⟩)
  ·by_cases hxy : x.S = y.S
   ·exact nadd_main hdx hdy he hrx hry hwx hwy hx0 hy0 (.inl hxy)
   ·rcases Nat.lt_or_ge (mv x) (mv y) with hm | hm
    ·exact nadd_swap hdx hdy he hrx hry hwx hwy hx0 hy0 hxy hm
    ·exact nadd_main hdx hdy he hrx hry hwx hwy hx0 hy0 (.inr hm)
def NumK (w : World) (v : Value) (e : Nat) (k : Int) : Prop := ∃ x,NumV w v x ∧ Wf x ∧ Rng e x ∧ nv x = k
theorem NumK.below {w w' : World} {v : Value} {e : Nat} {k : Int} (h : NumK w v e k) (hb : Below w.heap.size w w') : NumK w' v e k := by
 obtain ⟨x,h1,h2,h3,h4⟩ := h
 exact ⟨x,h1.below hb,h2,h3,h4⟩
theorem NumK.up {w : World} {v : Value} {e e' : Nat} {k : Int} (h : NumK w v e k) (he : e ≤ e') : NumK w v e' k := by
 obtain ⟨x,h1,h2,h3,h4⟩ := h
 exact ⟨x,h1,h2,h3.up he,h4⟩
theorem NumK.put {T : TypeId} {w : World} {r : Nat} {v : Value} {e : Nat} {k : Int} (h : NumK w v e k) (hB : Box3 T w r (.int .i64 0) (.slice none 0 0) (.int .i64 0)) (a b c : Value) : NumK (((w.setCell ⟨r,0,none⟩ a).setCell ⟨r,1,none⟩ b).setCell ⟨r,2,none⟩ c) v e k := by
 obtain ⟨x,⟨ad,ca,rfl,hd,hc⟩,h2,h3,h4⟩ := h
 exact ⟨x,⟨ad,ca,rfl,hd.put h2.lead hB a b c,hc⟩,h2,h3,h4⟩
theorem addK {w : World} {u v : Value} {e : Nat} {a b : Int} (hu : NumK w u e a) (hv : NumK w v e b) (he : e + 1 ≤ 190) :
  Calls Tryz.prog 160 #[u,v] w fun r w' => ∃ z,r = .returned z ∧ NumK w' z (e + 1) (a + b) ∧ Below w.heap.size w w' := by
 obtain ⟨x,⟨ad,ca,rfl,hdx,hca⟩,hwx,hrx,rfl⟩ := hu
 obtain ⟨y,⟨bd,cb,rfl,hdy,hcb⟩,hwy,hry,rfl⟩ := hv
 refine (nadd_walk hdx hdy hca hcb he hrx hry hwx hwy).mono ?_
 rintro r w' ⟨z,v,rfl,h1,h2,h3,h4,h5⟩
 exact ⟨v,rfl,⟨z,h1,h2,h4,h3⟩,h5⟩
theorem negK {w : World} {u : Value} {e : Nat} {a : Int} (hu : NumK w u e a) :
  Calls Tryz.prog 163 #[u] w fun r w' => ∃ z,r = .returned z ∧ NumK w' z e (-a) ∧ Below w.heap.size w w' := by
 obtain ⟨x,⟨ad,ca,rfl,hdx,hca⟩,hwx,hrx,rfl⟩ := hu
 refine (nneg_walk (ad := ad) (cap := ca) hwx).mono ?_
 rintro r w' ⟨rfl,hb⟩
 exact ⟨_,rfl,⟨negP x,⟨ad,ca,rfl,hdx.below hb,hca⟩,negP_wf hwx,negP_rng hrx,negP_nv x⟩,hb⟩
theorem NumK.agg {w : World} {v : Value} {e : Nat} {k : Int} (h : NumK w v e k) : ∃ (s ee : Int) (ad : Option Addr) (l c : Nat),v = .agg #[.int .i64 s,.slice ad l c,.int .i64 ee] ∧ s = sgnI k := by
 obtain ⟨x,⟨ad,ca,rfl,_⟩,hw,_,rfl⟩ := h
 exact ⟨x.S,x.E,ad,x.D.length,ca,rfl,(nv_sign hw).symm⟩
def Six (T : TypeId) (W : World) (p q : Nat) (x0 x1 x2 y0 y1 y2 : Value) : Prop := Box3 T W p x0 x1 x2 ∧ Box3 T W q y0 y1 y2
theorem Six.o {T : TypeId} {W : World} {p q : Nat} {x0 x1 x2 y0 y1 y2 : Value} (h : Six T W p q x0 x1 x2 y0 y1 y2) : W.cell? ⟨p,0,none⟩ = some x0 ∧ W.cell? ⟨p,1,none⟩ = some x1 ∧ W.cell? ⟨p,2,none⟩ = some x2 ∧ W.cell? ⟨q,0,none⟩ = some y0 ∧ W.cell? ⟨q,1,none⟩ = some y1 ∧ W.cell? ⟨q,2,none⟩ = some y2 :=
 ⟨h.1.c.1,h.1.c.2.1,h.1.c.2.2,h.2.c.1,h.2.c.2.1,h.2.c.2.2⟩
theorem Six.put {T : TypeId} {W : World} {p q r : Nat} {x0 x1 x2 y0 y1 y2 : Value} (h : Six T W p q x0 x1 x2 y0 y1 y2) (hp : p ≠ r) (hq : q ≠ r) (a b c : Value) : Six T (((W.setCell ⟨r,0,none⟩ a).setCell ⟨r,1,none⟩ b).setCell ⟨r,2,none⟩ c) p q x0 x1 x2 y0 y1 y2 :=
 ⟨((h.1.far hp a).far hp b).far hp c,((h.2.far hq a).far hq b).far hq c⟩
theorem subK {w : World} {u v : Value} {e : Nat} {a b : Int} (hu : NumK w u e a) (hv : NumK w v e b) (he : e + 1 ≤ 190) :
  Calls Tryz.prog 125 #[u,v] w fun r w' => ∃ z,r = .returned z ∧ Hid (NumK w' z (e + 1) (a - b)) ∧ Hid (Below w.heap.size w w') := by
 have HU := Lib.hid hu
 have HV := Lib.hid hv
 obtain ⟨s1,e1,ad,l1,c1,rfl,-⟩ := hu.agg
 obtain ⟨s2,e2,bd,l2,c2,rfl,-⟩ := hv.agg
 have HN : Hid (∀ W,Below w.heap.size w W → Calls Tryz.prog 163 #[.agg #[.int .i64 s2,.slice bd l2 c2,.int .i64 e2]] W fun r w' => ∃ (s ee : Int) (dd : Option Addr) (l c : Nat),r = .returned (.agg #[.int .i64 s,.slice dd l c,.int .i64 ee]) ∧ Hid (NumK w' (.agg #[.int .i64 s,.slice dd l c,.int .i64 ee]) e (-b)) ∧ Hid (Below W.heap.size W w')) := fun W hb => by
  refine (negK (HV.out.below hb)).mono ?_
  rintro r w' ⟨z,rfl,hz,hb'⟩
  obtain ⟨s,ee,dd,l,c,rfl,_⟩ := hz.agg
  exact ⟨s,ee,dd,l,c,rfl,hz,hb'⟩
 have HA : Hid (∀ W z,Below w.heap.size w W → NumK W z e (-b) → Calls Tryz.prog 160 #[.agg #[.int .i64 s1,.slice ad l1 c1,.int .i64 e1],z] W fun r w' => ∃ (s ee : Int) (dd : Option Addr) (l c : Nat),r = .returned (.agg #[.int .i64 s,.slice dd l c,.int .i64 ee]) ∧ Hid (NumK w' (.agg #[.int .i64 s,.slice dd l c,.int .i64 ee]) (e + 1) (a - b)) ∧ Hid (Below W.heap.size W w')) := fun W z hb hz => by
  refine (addK (HU.out.below hb) hz he).mono ?_
  rintro r w' ⟨t,rfl,ht,hb'⟩
  obtain ⟨s,ee,dd,l,c,rfl,_⟩ := ht.agg
  exact ⟨s,ee,dd,l,c,rfl,by rw [show a - b = a + -b by omega]; exact ht,hb'⟩
 obtain ⟨W3,hW3⟩ : ∃ W3,Hid (W3 = (((w.alloc (.cells #[.int .i64 s1,.slice ad l1 c1,.int .i64 e1] 124)).alloc (.cells #[.int .i64 s2,.slice bd l2 c2,.int .i64 e2] 124)).alloc (.cells #[.int .i64 0,.slice none 0 0,.int .i64 0] 124))) := ⟨_,rfl⟩
 obtain ⟨hbx,hby,hbr,hbw,_⟩ := boxes3 (w := w) (Wp := W3) (.int .i64 s1) (.slice ad l1 c1) (.int .i64 e1) (.int .i64 s2) (.slice bd l2 c2) (.int .i64 e2) (.int .i64 0) (.slice none 0 0) (.int .i64 0) 124 (by rw [hW3.out]; exact Below.refl _ _)
 have HK : Hid (∀ W,Below W3.heap.size W3 W → Six 124 W w.heap.size (w.heap.size + 1) (.int .i64 s1) (.slice ad l1 c1) (.int .i64 e1) (.int .i64 s2) (.slice bd l2 c2) (.int .i64 e2)) := fun W hb => ⟨hbx.below hb,hby.below hb⟩
 have HBR := Lib.hid hbr
 have HBW := Lib.hid hbw
 have B0 : Hid (Below W3.heap.size W3 W3.drew) := (Below.refl _ _).drew
 have n0 := (HK.out _ B0.out).o
 clear hu hv hbx hby hbr hbw
 go_enter Tryz.func125,Tryz.ntmps125
 go_upto_region 1 with fail
 rw [← hW3.out]
 go_region_held3 (fun w' => w'.cell? ⟨w.heap.size,0,none⟩ = some (.int .i64 s1) ∧ w'.cell? ⟨w.heap.size,1,none⟩ = some (.slice ad l1 c1) ∧ w'.cell? ⟨w.heap.size,2,none⟩ = some (.int .i64 e1) ∧ w'.cell? ⟨w.heap.size + 1,0,none⟩ = some (.int .i64 s2) ∧ w'.cell? ⟨w.heap.size + 1,1,none⟩ = some (.slice bd l2 c2) ∧ w'.cell? ⟨w.heap.size + 1,2,none⟩ = some (.int .i64 e2))
  (first | with_reducible exact n0 | with_reducible exact n1 | with_reducible exact n2 | with_reducible exact n3 _ _ _)
  (first
   |(go_at_call 163; (with_reducible refine (HN.out W3.drew (HBW.out.trans (B0.out.mono HBW.out.size))).mono ?_); rintro r w1 ⟨s,ee,dd,l,c,rfl,HZ1,hb1⟩; have B1 := Lib.hid (B0.out.trans hb1.out); have n1 := (HK.out _ B1.out).o)
   |(go_at_call 160; (with_reducible refine (HA.out _ _ (HBW.out.trans (B1.out.mono HBW.out.size)) HZ1.out).mono ?_); rintro r w2 ⟨s', ee', dd', l', c', rfl,HZ2,hb2⟩; have B2 := Lib.hid (B1.out.trans (hb2.out.mono B1.out.size)); have n2 := (HK.out _ B2.out).o; have R2 := Lib.hid (HBR.out.below B2.out); obtain ⟨r0,r1,r2⟩ := R2.out.c; have g0 := R2.out.fz 0; have g1 := R2.out.fz 1; have g2 := R2.out.fz 2; have n3 := fun v0 v1 v2 => ((HK.out _ B2.out).put (r := w.heap.size + 1 + 1) (by omega) (by omega) v0 v1 v2).o))
 obtain ⟨f0,f1,f2⟩ := (R2.out.put (.int .i64 s') (.slice dd' l' c') (.int .i64 ee')).c
 have HZ := Lib.hid (HZ2.out.put R2.out (.int .i64 s') (.slice dd' l' c') (.int .i64 ee'))
 have HBZ := Lib.hid (put_below (HBW.out.trans (B2.out.mono HBW.out.size)) (by omega) (.int .i64 s') (.slice dd' l' c') (.int .i64 ee') (r := w.heap.size + 1 + 1))
 clear n0 n1 n2 n3 r0 r1 r2 g0 g1 g2 HN HA
 go_wp2
 refine bodyPost_ret (by simp [results,Tryz.results125,go_sem,f0,f1,f2]; try rfl) rfl ?_
 exact ⟨_,rfl,HZ.out,HBZ.out⟩
theorem mag_set : ∀ (l : List Nat) (j d : Nat),j < l.length → mag (l.set j d) + l.getD j 0 * BB ^ j = mag l + d * BB ^ j
 | [],_,_,h => absurd h (by simp)
 | x :: r,0,d,_ => by simp only [List.set_cons_zero,mag,List.getD_cons_zero,Nat.pow_zero,Nat.mul_one]; omega
 | x :: r,j + 1,d,h => by
  have ih := mag_set r j d (by simpa using h)
  simp only [List.set_cons_succ,mag,List.getD_cons_succ,Nat.pow_succ]
  have e : BB * (mag (r.set j d) + r.getD j 0 * BB ^ j) = BB * (mag r + d * BB ^ j) := by rw [ih]
  rw [Nat.mul_add,Nat.mul_add] at e
  rw [Nat.mul_comm (BB ^ j) BB,← Nat.mul_assoc (r.getD j 0),← Nat.mul_assoc d,Nat.mul_comm (r.getD j 0) BB,Nat.mul_comm d BB,Nat.mul_assoc,Nat.mul_assoc]
  omega
theorem getD_set {l : List Nat} {j d i : Nat} (h : j < l.length) : (l.set j d).getD i 0 = if i = j then d else l.getD i 0 := by
 rw [List.getD_eq_getElem?_getD,List.getD_eq_getElem?_getD]
 by_cases e : i = j
 ·subst e
  rw [if_pos rfl,List.getElem?_set_self h]; rfl
 ·rw [if_neg e,List.getElem?_set_ne (fun h => e h.symm)]
theorem dig_set {l : List Nat} {j d : Nat} (h : ∀ z,z ∈ l → z < BB) (hd : d < BB) : ∀ z,z ∈ l.set j d → z < BB := by
 intro z hz
 rcases List.mem_or_eq_of_mem_set hz with hz | rfl
 ·exact h z hz
 ·exact hd
theorem mag_zeros (n : Nat) : mag (List.replicate n 0) = 0 := by
 induction n with
 | zero => rfl
 | succ n ih => rw [List.replicate_succ,mag,ih]; rfl
theorem getD_dig {l : List Nat} (h : ∀ z,z ∈ l → z < BB) (i : Nat) : l.getD i 0 < BB := by
 rw [List.getD_eq_getElem?_getD]
 cases e : l[i]? with
 | none => exact BB_pos
 | some z => exact h z (List.mem_of_getElem? e)
structure MulOut (a b : List Nat) (i : Nat) (O : List Nat) : Prop where
 len : O.length = a.length + b.length
 dig : ∀ z,z ∈ O → z < BB
 val : mag O = mag (a.take i) * mag b
 nil : ∀ j,i + b.length ≤ j → O.getD j 0 = 0
structure MulIn (a b : List Nat) (i k c : Nat) (O : List Nat) : Prop where
 len : O.length = a.length + b.length
 dig : ∀ z,z ∈ O → z < BB
 cr : c < BB
 val : mag O + c * BB ^ (i + k) = mag (a.take i) * mag b + a.getD i 0 * mag (b.take k) * BB ^ i
 nil : ∀ j,i + b.length ≤ j → O.getD j 0 = 0
theorem MulOut.start (a b : List Nat) : MulOut a b 0 (List.replicate (a.length + b.length) 0) :=
 ⟨List.length_replicate,fun z hz => by rw [(List.mem_replicate.1 hz).2]; exact BB_pos,by rw [mag_zeros]; simp [mag],fun j _ => by
  rw [List.getD_eq_getElem?_getD,List.getElem?_replicate]; split <;> rfl⟩
theorem MulOut.inn {a b O : List Nat} {i : Nat} (h : MulOut a b i O) : MulIn a b i 0 0 O :=
 ⟨h.len,h.dig,BB_pos,by rw [h.val]; simp [mag],h.nil⟩
theorem mul_small {p x y c : Nat} (hp : p < BB) (hx : x < BB) (hy : y < BB) (hc : c < BB) : p + x * y + c < BB * BB := by
 have : x * y ≤ (BB - 1) * (BB - 1) := Nat.mul_le_mul (by omega) (by omega)
 rw [BB_eq] at *
 omega
theorem MulIn.step {a b O : List Nat} {i k c : Nat} (h : MulIn a b i k c O) (ha : ∀ z,z ∈ a → z < BB) (hb : ∀ z,z ∈ b → z < BB) (hi : i < a.length) (hk : k < b.length) :
  MulIn a b i (k + 1) ((O.getD (i + k) 0 + a.getD i 0 * b.getD k 0 + c) / BB) (O.set (i + k) ((O.getD (i + k) 0 + a.getD i 0 * b.getD k 0 + c) % BB)) := by
 have hl : i + k < O.length := by have := h.len; omega
 have hv := mul_small (getD_dig h.dig (i + k)) (getD_dig ha i) (getD_dig hb k) h.cr
 have hs := mag_set O (i + k) ((O.getD (i + k) 0 + a.getD i 0 * b.getD k 0 + c) % BB) hl
 have hval := h.val
 have ht := mag_take_succ hk
 have hdm := Nat.div_add_mod (O.getD (i + k) 0 + a.getD i 0 * b.getD k 0 + c) BB
 refine ⟨by rw [List.length_set]; exact h.len,dig_set h.dig (Nat.mod_lt _ BB_pos),Nat.div_lt_of_lt_mul hv,?_,fun j hj => by rw [getD_set hl,if_neg (by omega)]; exact h.nil j hj⟩
 generalize O.getD (i + k) 0 = p at *
 generalize hx : a.getD i 0 = x at *
 generalize b.getD k 0 = y at *
 generalize hq : (p + x * y + c) / BB = q at *
 generalize hr : (p + x * y + c) % BB = r at *
 rw [ht]
 have e1 : (BB * q + r) * BB ^ (i + k) = (p + x * y + c) * BB ^ (i + k) := by rw [hdm]
 rw [Nat.add_mul,Nat.add_mul,Nat.add_mul,Nat.mul_comm BB q,Nat.mul_assoc q BB] at e1
 rw [show i + (k + 1) = (i + k) + 1 by omega,Nat.pow_succ,Nat.mul_comm (BB ^ (i + k)) BB]
 have e2 : x * (mag (b.take k) + y * BB ^ k) * BB ^ i = x * mag (b.take k) * BB ^ i + x * y * BB ^ (i + k) := by
  rw [Nat.mul_add,Nat.add_mul,← Nat.mul_assoc x y,Nat.mul_assoc (x * y),← Nat.pow_add,Nat.add_comm k i]
 rw [e2]
 omega
theorem MulIn.done {a b O : List Nat} {i c : Nat} (h : MulIn a b i b.length c O) (hi : i < a.length) :
  MulOut a b (i + 1) (O.set (i + b.length) (O.getD (i + b.length) 0 + c)) := by
 have hl : i + b.length < O.length := by have := h.len; omega
 have hn := h.nil (i + b.length) (Nat.le_refl _)
 have hs := mag_set O (i + b.length) (O.getD (i + b.length) 0 + c) hl
 have hval := h.val
 rw [hn] at hs ⊢
 rw [List.take_length] at hval
 refine ⟨by rw [List.length_set]; exact h.len,dig_set h.dig (by have := h.cr; omega),?_,fun j hj => by rw [getD_set hl,if_neg (by omega)]; exact h.nil j (by omega)⟩
 rw [mag_take_succ hi,Nat.add_mul,Nat.mul_assoc (a.getD i 0),Nat.mul_comm (BB ^ i),← Nat.mul_assoc]
 rw [Nat.zero_add] at *
 omega
end Go.Proofs.YtbagikgpgdlkcaaGreatDoor
