/- Part of the proof. No conditions. -/
import Derived.Test.YtbagikgpgdlkcaaGreatDoorZ4
import Derived.BigQuiet
import Derived.Deep.RegionHeld
set_option linter.all false
set_option maxHeartbeats 8000000
set_option maxRecDepth 100000
namespace Go.Proofs.YtbagikgpgdlkcaaGreatDoor
open Go.RowKit Tvf
theorem rev_parts (l : List Nat) (h : 0 < l.length) : ∃ d,l.reverse = l.getD (l.length - 1) 0 :: d ∧ d.length = l.length - 1 ∧ ∀ c,c < d.length → d.getD c 0 = l.getD (l.length - 2 - c) 0 := by
 have hr : ∀ i,i < l.length → l.reverse.getD i 0 = l.getD (l.length - 1 - i) 0 := by
  intro i hi
  rw [List.getD_eq_getElem?_getD,List.getElem?_reverse hi,← List.getD_eq_getElem?_getD]
 have hlen : l.reverse.length = l.length := List.length_reverse
 cases hd : l.reverse with
 | nil => rw [hd] at hlen; simp at hlen; omega
 | cons q d =>
  rw [hd] at hr hlen
  simp only [List.length_cons] at hlen
  refine ⟨d,?_,by omega,?_⟩
  ·have := hr 0 h
   simp at this
   rw [this]; simp
  ·intro c hc
   have := hr (c + 1) (by omega)
   rw [show l.length - 1 - (c + 1) = l.length - 2 - c by omega] at this
   rw [← this]; rfl
theorem getD_rev (l : List Nat) (i : Nat) (h : i < l.length) : l.reverse.getD i 0 = l.getD (l.length - 1 - i) 0 := by
 rw [List.getD_eq_getElem?_getD,List.getElem?_reverse h,← List.getD_eq_getElem?_getD]
theorem OwnF.cell {w : World} {base : Nat} {v : Value} {l : List Nat} (h : OwnF w base v l) : ∃ ad cap,v = .slice ad l.length cap ∧ (0 < l.length → ∃ b : Nat,ad = some ⟨b,0,none⟩ ∧ base ≤ b ∧ b < w.heap.size ∧ ∀ i,i < l.length → w.cell? ⟨b,i,none⟩ = some (.float .f64 (l.getD i 0))) := by
 have hlt := World.ownsRow.lt h
 have hcells := fun {g : Nat} (hg : v.ownBlock = some g) => World.ownsRow.cells h hg
 obtain ⟨h1,⟨h2,h3⟩ | ⟨g,cap,cur,e1,e2,e3,e4,e5,e6,e7⟩⟩ := h
 ·exact ⟨none,0,by rw [h2,h3],fun h => by omega⟩
 ·refine ⟨_,cap,e1,fun _ => ⟨g,rfl,e2,(hlt g (by rw [e1]; rfl)).2,?_⟩⟩
  intro i hi
  have := hcells (g := g) (by rw [e1]; rfl) i (.float .f64 (l.getD i 0)) (by
   rw [List.getElem?_map,List.getElem?_eq_getElem hi,List.getD_eq_getElem?_getD,List.getElem?_eq_getElem hi]; rfl)
  by_cases h0 : i = 0
  ·subst h0; simpa [Addr.add] using this
  ·simpa [Addr.add,h0] using this
theorem ownsRow_base {w : World} {base base' : Nat} {e : TypeId} {size : Nat} {v : Value} {n : Nat} {xs : List Value} (h : w.ownsRow base e size v n xs) (hb : base' ≤ base) : w.ownsRow base' e size v n xs := by
 obtain ⟨h1,h2 | ⟨g,cap,cur,e1,e2,e3⟩⟩ := h
 ·exact ⟨h1,Or.inl h2⟩
 ·exact ⟨h1,Or.inr ⟨g,cap,cur,e1,Nat.le_trans hb e2,e3⟩⟩
theorem neat_nil (ad : Option Addr) (cap : Nat) (w : World) :
  Calls Tryz.prog 198 #[.slice ad 0 cap] w fun e w' => ∃ v', e = .returned v' ∧ OwnF w' w.heap.size v' [] ∧ Below w.heap.size w w' := by
 go_enter Tryz.func198,Tryz.ntmps198
 go_wp2
 go_ret
 exact ⟨_,rfl,World.ownsRow_nil _ _ _ _,Below.refl _ _⟩
theorem neat_some (l : List Nat) (ad : Option Addr) (cap : Nat) (hr : runN l) (hlen : l.length ≤ 1024) (h0 : 0 < l.length) (w : World)
  (hcell : ∃ b off : Nat,ad = some ⟨b,off,none⟩ ∧ b < w.heap.size ∧ ∀ i,i < l.length → w.cell? ⟨b,off + i,none⟩ = some (.float .f64 (l.getD i 0))) :
  Calls Tryz.prog 198 #[.slice ad l.length cap] w fun e w' => ∃ v', e = .returned v' ∧ OwnF w' w.heap.size v' (neatW l) ∧ Below w.heap.size w w' := by
 obtain ⟨bb,off,rfl,hbb,hc⟩ := hcell
 obtain ⟨i0,hi,hz0,hz1,hz2⟩ := info_parts infoF
 obtain ⟨d,hd,hdl,hdg⟩ := rev_parts l h0
 have HN : Hid (neatW l = growS (st1 (l.getD (l.length - 1) 0) d).2 (st1 (l.getD (l.length - 1) 0) d).1.reverse) := by unfold Hid neatW; rw [hd]
 have HR : Hid (run1 (l.getD (l.length - 1) 0) d ∧ runS (st1 (l.getD (l.length - 1) 0) d).2 (st1 (l.getD (l.length - 1) 0) d).1.reverse) := by
  unfold runN at hr; rw [hd] at hr; exact hr
 have HC := Lib.hid hc
 have hlast := hc (l.length - 1) (by omega)
 have HDG := Lib.hid hdg
 have HDL := Lib.hid hdl
 have hl1 : ((l.length : Int) == 0) = false := by rw [beq_eq_false_iff_ne]; omega
 have hi1 : ((l.length : Int) - 1).toNat = l.length - 1 := by omega
 clear hr hc hd hdg hdl
 generalize l.getD (l.length - 1) 0 = q0 at *
 go_enter Tryz.func198,Tryz.ntmps198
 go_wp2_with (at_make; refine wpList_make_own _ rfl _ _ 143 rfl w.heap.size 66 i0 (.float .f64 0) 1 Tryz.underlying143 hi hz0 hz1 _ _ _ l.length rfl rfl ?c1 ?c2 ?c3 (Nat.le_refl _) ?_)
 case c1 => omega
 case c2 => rw [hz2]; omega
 case c3 => unfold maxLen; omega
 intro w0 hown0 hgrow0
 have hb0 : Below w.heap.size w w0 := (Below.refl _ _).grown hgrow0 (Nat.le_refl _) (fun k hk => by cases hk)
 clear hgrow0
 have hlast0 : w0.cell? ⟨bb,off + (l.length - 1),none⟩ = some (.float .f64 q0) := (hb0.cell (p := ⟨bb,off + (l.length - 1),none⟩) hbb).trans hlast
 clear hlast
 go_wp2
 go_loopw [3,4,5] (fun g q i wr => ∃ c : Nat,c ≤ d.length ∧ i = .int .i64 ((l.length : Int) - 2 - c) ∧ q = .float .f64 (st1 q0 (d.take c)).2 ∧ OwnF wr w.heap.size g (st1 q0 (d.take c)).1 ∧ Below w.heap.size w wr) (fun _ _ i _ => (intOf i + 1).toNat)
 case atStart => exact ⟨0,Nat.zero_le _,by go_num,rfl,hown0,hb0⟩
 case round =>
  clear hown0 hb0 hlast0
  obtain ⟨c,hk,rfl,rfl,hown,hbw⟩ := hrel
  have HDL2 := HDL.out
  by_cases hlt : c < d.length
  ·have hck : wr.cell? ⟨bb,off + (l.length - 2 - c),none⟩ = some (.float .f64 (d.getD c 0)) := by
    rw [HDG.out c hlt]
    exact (hbw.cell (p := ⟨bb,off + (l.length - 2 - c),none⟩) hbb).trans (HC.out _ (by omega))
   have hi2 : ((l.length : Int) - 2 - c).toNat = l.length - 2 - c := by omega
   have hge : (0 : Int) ≤ (l.length : Int) - 2 - c := by omega
   have hltn : l.length - 2 - c < l.length := by omega
   have hRk := run1_at HR.1 c (by omega)
   have hst := st1_snoc (d.take c) (d.getD c 0) q0
   rw [← take_snoc' d c hlt] at hst
   have HS := Lib.hid (sum_walk (st1 q0 (d.take c)).2 (d.getD c 0) hRk.1 (hRk.2 hlt))
   have hll := st1_len (d.take c) q0
   have hll2 : (d.take c).length = c := by rw [List.length_take]; omega
   have HST := Lib.hid hst
   have HL : Hid ((st1 q0 (d.take c)).1.length ≤ c) := by unfold Hid; omega
   have HDL3 : Hid (d.length = l.length - 1) := HDL
   have hcl : (c : Int) + 2 ≤ l.length := by omega
   clear hRk hst hll hll2 HDL2
   generalize d.getD c 0 = x at *
   generalize (st1 q0 (d.take c)).2 = q at *
   generalize (st1 q0 (d.take c)).1 = o at *
   cases hne : fne (sumLo q x) 0
   ·rw [hne] at HST
    go_wp2_with (go_at_call 185; refine (HS.out _).mono ?_; rintro e w1 ⟨rfl,hb1⟩)
    go_roundw
    case rel => exact ⟨c + 1,by omega,by go_num,by rw [HST.out]; rfl,by rw [HST.out]; exact ownsRow_below hown hb1,hbw.trans (hb1.mono hbw.size)⟩
    case measure => simp [intOf]; omega
   ·rw [hne] at HST
    go_wp2_with (first
     |(go_at_call 185; refine (HS.out _).mono ?_; rintro e w1 ⟨rfl,hb1⟩; have hown1 := ownsRow_below hown hb1; clear hown)
     |(at_builtin; refine wpList_append_own _ rfl _ _ 143 rfl w.heap.size 66 i0 (.float .f64 0) 1 8 Tryz.underlying143 hi hz0 hz1 hz2 rfl (by decide) _ _ _ rfl (hown1.alloc _) ⟨w1.heap.size,0,none⟩ 1 1 [.float .f64 (sumHi q x)] rfl rfl ?c1 ?c2 ?c3 ?c4 ?c5 ?_))
    case c1 =>
     intro j u hj
     match j,hj with
     | 0,hj => simp at hj; subst hj; simp [Addr.add]
    case c2 => exact float_oneCell _
    case c3 => have := HL.out; unfold maxLen; omega
    case c4 => have := HL.out; omega
    case c5 => have := hbw.size; have := hb1.size; simp; omega
    intro v' w2 hown2 hgrow2 _
    have hlt1 := World.ownsRow.lt hown1
    have hbw2 : Below w.heap.size w w2 := ((hbw.trans (hb1.mono hbw.size)).alloc (by have := hbw.size; have := hb1.size; omega) _).grown hgrow2 (by have := hbw.size; have := hb1.size; simp; omega) (fun kk hkk => (hlt1 kk hkk).1)
    have hown3 : OwnF w2 w.heap.size v' (o ++ [sumHi q x]) := by unfold OwnF; rw [List.length_append,List.map_append]; exact hown2
    clear hown2 hgrow2 hown1 hlt1 hb1 hck
    go_wp2
    go_roundw
    case rel => exact ⟨c + 1,by omega,by go_num,by rw [HST.out]; rfl,by rw [HST.out]; exact hown3,hbw2⟩
    case measure => simp [intOf]; omega
  ·have hcl : c = d.length := by omega
   have htk : d.take c = d := List.take_of_length_le (by omega)
   rw [htk] at hown
   rw [htk]
   have hgl := st1_len d q0
   have HRS : Hid (runS (st1 q0 d).2 (st1 q0 d).1.reverse) := HR.2
   have HLg : Hid ((st1 q0 d).1.length ≤ l.length) := by unfold Hid; omega
   have hneg : (l.length : Int) - 2 - c < 0 := by omega
   have hll1024 : Hid (l.length ≤ 1024) := hlen
   clear hcl htk hgl HR HC HDG HDL HDL2 hlt hk hlen hi1 hl1
   generalize (st1 q0 d).2 = q1 at *
   generalize (st1 q0 d).1 = g at *
   obtain ⟨gad,gcap,rfl,hgc⟩ := OwnF.cell hown
   have HGC := Lib.hid hgc
   have hgle := HLg.out
   have hl1k := hll1024.out
   clear hgc hown
   go_wp2
   obtain ⟨wo,rfl⟩ : ∃ wo : World,wo = wr := ⟨_,rfl⟩
   have hbws := hbw.size
   have HGL : Hid ((goutS q1 g.reverse).length ≤ g.length) := by have := goutS_len g.reverse q1; unfold Hid; rw [List.length_reverse] at this; exact this
   have hrl : Hid (g.reverse.length = g.length) := List.length_reverse
   go_loopw [4,7,8] (fun q out i wr => ∃ c : Nat,c ≤ g.length ∧ i = .int .i64 ((g.length : Int) - 1 - c) ∧ q = .float .f64 (gqS q1 (g.reverse.take c)) ∧ OwnF wr wo.heap.size out (goutS q1 (g.reverse.take c)) ∧ Below wo.heap.size wo wr) (fun _ _ i _ => (intOf i + 1).toNat)
   case atStart => exact ⟨0,Nat.zero_le _,by go_num,rfl,World.ownsRow_made wo #[] 0 (Nat.le_refl _) (by unfold maxLen; omega) rfl,(Below.refl _ _).alloc (Nat.le_refl _) _⟩
   case round =>
    obtain ⟨c2,hk,rfl,rfl,hown,hbo⟩ := hrel
    by_cases hlt : c2 < g.length
    ·obtain ⟨gb,rfl,hgb1,hgb2,hgc⟩ := HGC.out (by omega)
     have hck : wr.cell? ⟨gb,g.length - 1 - c2,none⟩ = some (.float .f64 (g.reverse.getD c2 0)) := by
      rw [getD_rev g c2 hlt]
      exact (hbo.cell (p := ⟨gb,g.length - 1 - c2,none⟩) hgb2).trans (hgc _ (by omega))
     have hi2 : ((g.length : Int) - 1 - c2).toNat = g.length - 1 - c2 := by omega
     have hge : (0 : Int) ≤ (g.length : Int) - 1 - c2 := by omega
     have hltn : g.length - 1 - c2 < g.length := by omega
     have hRk := runS_at HRS c2 (by rw [hrl.out]; omega)
     have hgq := gqS_snoc (g.reverse.take c2) (g.reverse.getD c2 0) q1
     have hgo := goutS_snoc (g.reverse.take c2) (g.reverse.getD c2 0) q1
     rw [← take_snoc' g.reverse c2 (by rw [hrl.out]; exact hlt)] at hgq hgo
     have HS := Lib.hid (sum_walk (g.reverse.getD c2 0) (gqS q1 (g.reverse.take c2)) (hRk.2 (by rw [hrl.out]; exact hlt)) hRk.1)
     have hll := goutS_len (g.reverse.take c2) q1
     have hll2 : (g.reverse.take c2).length = c2 := by rw [List.length_take,hrl.out]; omega
     have HQ := Lib.hid hgq
     have HO := Lib.hid hgo
     have HL : Hid ((goutS q1 (g.reverse.take c2)).length ≤ c2) := by unfold Hid; omega
     have hcl : (c2 : Int) + 1 ≤ g.length := by omega
     clear hgc hRk hgq hgo hll hll2
     generalize g.reverse.getD c2 0 = x at *
     generalize gqS q1 (g.reverse.take c2) = q at *
     generalize goutS q1 (g.reverse.take c2) = o at *
     cases hne : fne (sumLo x q) 0
     ·have hkp : Hid (keepF (sumLo x q) = []) := by unfold Hid keepF; rw [hne]; rfl
      go_wp2_with (go_at_call 185; refine (HS.out _).mono ?_; rintro e w1 ⟨rfl,hb1⟩)
      go_roundw
      case rel => exact ⟨c2 + 1,by omega,by go_num,by rw [HQ.out],by rw [HO.out,hkp.out,List.append_nil]; exact ownsRow_below hown hb1,hbo.trans (hb1.mono hbo.size)⟩
      case measure => simp [intOf]; omega
     ·have hkp : Hid (keepF (sumLo x q) = [sumLo x q]) := by unfold Hid keepF; rw [hne]; rfl
      go_wp2_with (first
       |(go_at_call 185; refine (HS.out _).mono ?_; rintro e w1 ⟨rfl,hb1⟩; have hown1 := ownsRow_below hown hb1; clear hown)
       |(at_builtin; refine wpList_append_own _ rfl _ _ 143 rfl wo.heap.size 66 i0 (.float .f64 0) 1 8 Tryz.underlying143 hi hz0 hz1 hz2 rfl (by decide) _ _ _ rfl (hown1.alloc _) ⟨w1.heap.size,0,none⟩ 1 1 [.float .f64 (sumLo x q)] rfl rfl ?c1 ?c2 ?c3 ?c4 ?c5 ?_))
      case c1 =>
       intro j u hj
       match j,hj with
       | 0,hj => simp at hj; subst hj; simp [Addr.add]
      case c2 => exact float_oneCell _
      case c3 => have := HL.out; unfold maxLen; omega
      case c4 => have := HL.out; omega
      case c5 => have := hbo.size; have := hb1.size; simp; omega
      intro v' w2 hown2 hgrow2 _
      have hlt1 := World.ownsRow.lt hown1
      have hbw2 : Below wo.heap.size wo w2 := ((hbo.trans (hb1.mono hbo.size)).alloc (by have := hbo.size; have := hb1.size; omega) _).grown hgrow2 (by have := hbo.size; have := hb1.size; simp; omega) (fun kk hkk => (hlt1 kk hkk).1)
      have hown3 : OwnF w2 wo.heap.size v' (o ++ [sumLo x q]) := by unfold OwnF; rw [List.length_append,List.map_append]; exact hown2
      clear hown2 hgrow2 hown1 hlt1 hb1 hck
      go_wp2
      go_roundw
      case rel => exact ⟨c2 + 1,by omega,by go_num,by rw [HQ.out],by rw [HO.out,hkp.out]; exact hown3,hbw2⟩
      case measure => simp [intOf]; omega
    ·have hcl : c2 = g.length := by omega
     have htk : g.reverse.take c2 = g.reverse := List.take_of_length_le (by rw [hrl.out]; omega)
     rw [htk] at hown
     rw [htk]
     have HD : Hid (neatW l = goutS q1 g.reverse ++ keepF (gqS q1 g.reverse)) := HN
     have hneg2 : (g.length : Int) - 1 - c2 < 0 := by omega
     clear hcl htk hlt hk HRS HGC hrl HN
     generalize gqS q1 g.reverse = q at *
     generalize goutS q1 g.reverse = o at *
     cases hne : fne q 0
     ·have hkp : Hid (keepF q = []) := by unfold Hid keepF; rw [hne]; rfl
      go_wp2
      go_ret
      exact ⟨_,rfl,by rw [HD.out,hkp.out,List.append_nil]; exact ownsRow_base hown hbws,hbw.trans (hbo.mono hbws)⟩
     ·have hkp : Hid (keepF q = [q]) := by unfold Hid keepF; rw [hne]; rfl
      go_wp2_with (at_builtin; refine wpList_append_own _ rfl _ _ 143 rfl wo.heap.size 66 i0 (.float .f64 0) 1 8 Tryz.underlying143 hi hz0 hz1 hz2 rfl (by decide) _ _ _ rfl (hown.alloc _) ⟨wr.heap.size,0,none⟩ 1 1 [.float .f64 q] rfl rfl ?c1 ?c2 ?c3 ?c4 ?c5 ?_)
      case c1 =>
       intro j u hj
       match j,hj with
       | 0,hj => simp at hj; subst hj; simp [Addr.add]
      case c2 => exact float_oneCell _
      case c3 => have := HGL.out; unfold maxLen; omega
      case c4 => have := HGL.out; omega
      case c5 => have := hbo.size; simp; omega
      intro v' w2 hown2 hgrow2 _
      have hlt1 := World.ownsRow.lt hown
      have hbw2 : Below wo.heap.size wo w2 := (hbo.alloc hbo.size _).grown hgrow2 (by have := hbo.size; simp; omega) (fun kk hkk => (hlt1 kk hkk).1)
      have hown3 : OwnF w2 wo.heap.size v' (o ++ [q]) := by unfold OwnF; rw [List.length_append,List.map_append]; exact hown2
      clear hown2 hgrow2 hlt1
      go_wp2
      go_ret
      exact ⟨_,rfl,by rw [HD.out,hkp.out]; exact ownsRow_base hown3 hbws,hbw.trans (hbw2.mono hbws)⟩
theorem neat_walk (l : List Nat) (v : Value) (hr : runN l) (hlen : l.length ≤ 1024) (w : World) (hv : FSl w v l) :
  Calls Tryz.prog 198 #[v] w fun e w' => ∃ v', e = .returned v' ∧ OwnF w' w.heap.size v' (neatW l) ∧ Below w.heap.size w w' := by
 obtain ⟨ad,cap,rfl,hcell⟩ := hv.form
 by_cases h0 : 0 < l.length
 ·exact neat_some l ad cap hr hlen h0 w (hcell h0)
 ·have : l = [] := List.length_eq_zero_iff.1 (by omega)
  subst this
  exact neat_nil ad cap w
def INF : Nat := 9218868437227405312
theorem inf_walk (w : World) :
  Calls Tryz.prog 224 #[.int .i64 1] w fun e w' => e = .returned (.float .f64 9218868437227405312) ∧ w = w' := by
 go_enter Tryz.func224,Tryz.ntmps224
 go_wp2
 go_ret
 exact ⟨rfl,rfl⟩
theorem fin_tiny : fin 1 := by unfold fin; omega
theorem fval_tiny : fval 1 = 1 := by decide
theorem apart_walk (l : List Nat) (v : Value) (hl : ∀ x,x ∈ l → fin x) (ha : allB l 1 INF = true) (w : World) (hv : FSl w v l) :
  Calls Tryz.prog 197 #[v] w fun e w' => e = .returned v ∧ w = w' := by
 have HA := Lib.hid (all_walk l v 1 INF fin_tiny (by rw [fval_tiny]; decide) hl w hv)
 rw [ha] at HA
 unfold INF at HA
 clear ha hl
 go_enter Tryz.func197,Tryz.ntmps197
 go_wp2_with (first | (go_at_call 224; refine (inf_walk _).mono ?_; rintro e w' ⟨rfl,rfl⟩) | (go_at_call 155; refine (HA.out).mono ?_; rintro e w' ⟨rfl,rfl⟩))
 go_ret
 exact ⟨rfl,rfl⟩
theorem fle_inf {x : Nat} (hx : fin x) : fle x INF = true := by
 obtain ⟨m,i,e1,v1,_⟩ := read_fin hx
 unfold fle Ieee.Format.order
 have e2 : D.read INF = .infinity false := by decide
 rw [e1,e2]
 rfl
theorem good_of_nov (l : List Nat) (hl : ∀ x,x ∈ l → fin x) (p : Nat) (hn : nov p (l.map fval)) (a b : Nat) (hw : ∀ x,x ∈ l → withinB x a b = true) : ∀ j,j < l.length → goodAt l a b j = true := by
 have gen : ∀ (l : List Nat) (p : Nat),(∀ x,x ∈ l → fin x) → nov p (l.map fval) → ∀ j,j + 1 < l.length → fge (l.getD j 0 % 2 ^ 63) (lowF (l.getD (j + 1) 0)) = false := by
  intro l
  induction l with
  | nil => intro p _ _ j hj; simp at hj
  | cons x r ih =>
   intro p hl hn j hj
   cases j with
   | succ j => exact ih _ (fun y hy => hl y (List.mem_cons_of_mem _ hy)) hn.2.2 j (by simp at hj; omega)
   | zero =>
    cases r with
    | nil => simp at hj
    | cons y r =>
     have hx := hl x (List.mem_cons_self ..)
     have hy := hl y (List.mem_cons_of_mem _ (List.mem_cons_self ..))
     obtain ⟨y0,⟨k,hk1,hk2⟩,_⟩ := hn.2.2
     have hlow := lowF_spec hy y0
     show fge (x % 2 ^ 63) (lowF y) = false
     rw [fge_val (fin_abs hx) hlow.2.1,fval_abs]
     obtain ⟨v,q,h1,h2,h3⟩ := hlow.2.2
     rw [h1]
     have hkv : k ≤ v := by
      apply Classical.byContradiction
      intro hc
      rw [h2] at hk2
      obtain ⟨c,hc2⟩ := hk2
      have e1 : (2 : Int) ^ k = 2 ^ v * 2 ^ (k - v) := by rw [← Int.pow_add,show v + (k - v) = k by omega]
      rw [e1,Int.mul_comm q,Int.mul_assoc] at hc2
      have := Int.eq_of_mul_eq_mul_left (Int.ne_of_gt (Int.pow_pos (by omega) : (0 : Int) < 2 ^ v)) hc2
      rw [show k - v = k - v - 1 + 1 by omega,Int.pow_succ,Int.mul_assoc] at this
      generalize (2 : Int) ^ (k - v - 1) = P at *
      have h4 : q = 2 * (P * c) := by rw [this]; grind
      omega
     have hp : 2 ^ k ≤ 2 ^ v := Nat.pow_le_pow_right (by omega) hkv
     have cast : ((2 ^ v : Nat) : Int) = (2 : Int) ^ v := by simp
     rw [← cast]
     simp only [decide_eq_false_iff_not]
     show ¬ ((2 ^ v : Nat) : Int) ≤ ((fval x).natAbs : Int)
     have hk1' : (fval x).natAbs < 2 ^ k := hk1
     omega
 intro j hj
 unfold goodAt
 rw [hw _ (getD_mem hj),Bool.true_and]
 cases j with
 | zero => rfl
 | succ j =>
  rw [show j + 1 - 1 = j by omega,gen l p hl hn j hj]; simp
theorem within_tiny {x : Nat} (hx : fin x) (h0 : fval x ≠ 0) : withinB x 1 INF = true := by
 unfold withinB
 rw [fle_inf (fin_abs hx),fge_val (fin_abs hx) fin_tiny,fval_abs,fval_tiny]
 simp; omega
structure NeatFacts (o l : List Nat) : Prop where
 fins : ∀ x,x ∈ l → fin x
 nz : ∀ x,x ∈ l → fval x ≠ 0
 sum : isum (l.map fval) = isum (o.map fval)
 novs : nov 0 (l.map fval)
 abs : absSum (l.map fval) ≤ 8 * (isum (o.map fval)).natAbs
 all : allB l 1 INF = true
 dvd : ∀ k : Nat,(∀ x,x ∈ o → (2 : Int) ^ k ∣ fval x) → ∀ x,x ∈ l → (2 : Int) ^ k ∣ fval x
theorem neat_facts {o : List Nat} (hr : runN o) (hn : nov 0 (o.map fval)) (hlen : o.length ≤ 1000) (hb : absSum (o.map fval) ≤ 2 ^ (unitE + 998)) : NeatFacts o (neatW o) := by
 obtain ⟨h1,h2⟩ := neatW_vals hr
 obtain ⟨n1,n2,n3,n4,n5,n6,n7⟩ := neat_all hn (fun y hy => by
  obtain ⟨x,_,rfl⟩ := List.mem_map.1 hy; exact rep_fval x) (by rw [List.length_map]; omega)
 rw [← h1] at n1 n2 n3 n5 n6 n7
 have hnz : ∀ x,x ∈ neatW o → fval x ≠ 0 := fun x hx => n3 _ (List.mem_map_of_mem hx)
 refine ⟨h2,hnz,n1,n2,n5,?_,?_⟩
 ·refine all_true ?_ (good_of_nov _ h2 0 n2 1 INF (fun x hx => within_tiny (h2 x hx) (hnz x hx)))
  have := n6 (unitE + 998) (by
   refine Nat.lt_of_le_of_lt (Nat.le_trans (isum_le _) hb) ?_
   exact Nat.pow_lt_pow_right (by omega) (by omega))
  rw [List.length_map] at this
  have hu := unitE_eq
  omega
 ·intro k hk x hx
  refine n7 k ?_ _ (List.mem_map_of_mem hx)
  intro y hy
  obtain ⟨z,hz,rfl⟩ := List.mem_map.1 hy
  exact hk z hz
def pickB (e f : List Nat) (i k : Nat) : Bool := decide (k = f.length) || (decide (i < e.length) && flt (e.getD i 0 % 2 ^ 63) (f.getD k 0 % 2 ^ 63))
structure Boxes (w : World) (b : Nat) (ve vf : Value) (i k : Nat) : Prop where
 hE : w.cell? ⟨b,0,none⟩ = some ve
 hF : w.cell? ⟨b + 1,0,none⟩ = some vf
 hI : w.cell? ⟨b + 1 + 1,0,none⟩ = some (.int .i64 i)
 hK : w.cell? ⟨b + 1 + 1 + 1,0,none⟩ = some (.int .i64 k)
 fI : w.frozen? ⟨b + 1 + 1,0,none⟩ = false
 fK : w.frozen? ⟨b + 1 + 1 + 1,0,none⟩ = false
theorem qleft {P : Program} {g : FuncId} {args : Array Value} {w : World} {n : Nat} {v : Value}
  (h : Calls P g args (w.drewN n) fun r w' => r = .returned v ∧ w.drewN n = w') : Calls P g args (w.drewN n) fun r w'' => r = .returned v ∧ ∃ m,w'' = w.drewN m :=
 h.mono fun _ _ ⟨he,hm⟩ => ⟨he,n,hm.symm⟩
def CellsF (w : World) (ad : Option Addr) (l : List Nat) (b : Nat) : Prop :=
 0 < l.length → ∃ bb off : Nat,ad = some ⟨bb,off,none⟩ ∧ bb < b ∧ ∀ i,i < l.length → w.cell? ⟨bb,off + i,none⟩ = some (.float .f64 (l.getD i 0))
theorem next_e (e f : List Nat) (b : Nat) (ead fad : Option Addr) (ec fc : Nat) (i k : Nat) (hle : e.length ≤ 4294967296) (hlf : f.length ≤ 4294967296) (h64e : ∀ x,x ∈ e → x < 2 ^ 64) (h64f : ∀ x,x ∈ f → x < 2 ^ 64) (hk : k ≤ f.length) (hi : i < e.length) (hp : pickB e f i k = true) (w : World)
  (hB : Boxes w b (.slice ead e.length ec) (.slice fad f.length fc) i k) (hce : CellsF w ead e b) (hcf : CellsF w fad f b) :
  Calls Tryz.prog 195 #[.pointer (some ⟨b + 1 + 1 + 1,0,none⟩),.pointer (some ⟨b + 1,0,none⟩),.pointer (some ⟨b + 1 + 1,0,none⟩),.pointer (some ⟨b,0,none⟩)] w fun r w' =>
   ∃ n,r = .returned (.float .f64 (e.getD i 0)) ∧ w' = (w.drewN n).setCell ⟨b + 1 + 1,0,none⟩ (.int .i64 (i + 1)) := by
 obtain ⟨hE,hF,hI,hK,fI,fK⟩ := hB
 obtain ⟨eb,eo,rfl,heb,hec⟩ := hce (by omega)
 have hx := hec i hi
 have HX := Lib.hid (h64e _ (getD_mem hi))
 have hi1 : ((i : Int) + 1 - 1).toNat = i := by omega
 unfold pickB at hp
 by_cases hkf : k = f.length
 ·subst hkf
  clear hec hce hcf h64e h64f hp
  generalize e.getD i 0 = x at *
  go_enter Tryz.func195,Tryz.ntmps195
  go_wp2
  go_quiet (fail)
  go_wp2
  go_ret
  exact ⟨_,rfl,rfl⟩
 ·have hlt : k < f.length := by omega
  obtain ⟨fb,fo,rfl,hfb,hfc⟩ := hcf (by omega)
  have hy := hfc k hlt
  have HY := Lib.hid (h64f _ (getD_mem hlt))
  have hkd : ((k : Int) == (f.length : Int)) = false := by rw [beq_eq_false_iff_ne]; omega
  have hid : decide ((i : Int) < (e.length : Int)) = true := by simp; omega
  have hfl : flt (e.getD i 0 % 2 ^ 63) (f.getD k 0 % 2 ^ 63) = true := by
   rw [show decide (k = f.length) = false by simpa using hkf,Bool.false_or,Bool.and_eq_true] at hp
   exact hp.2
  clear hec hfc hce hcf h64e h64f hp hkf
  generalize e.getD i 0 = x at *
  generalize f.getD k 0 = y at *
  go_enter Tryz.func195,Tryz.ntmps195
  go_wp2
  go_quiet ((go_at_call 130; (first | exact qleft (abs_any x HX.out _) | exact qleft (abs_any y HY.out _))))
  go_wp2
  go_ret
  exact ⟨_,rfl,rfl⟩
theorem next_f (e f : List Nat) (b : Nat) (ead fad : Option Addr) (ec fc : Nat) (i k : Nat) (hle : e.length ≤ 4294967296) (hlf : f.length ≤ 4294967296) (h64e : ∀ x,x ∈ e → x < 2 ^ 64) (h64f : ∀ x,x ∈ f → x < 2 ^ 64) (hk : k ≤ f.length) (hi : i ≤ e.length) (hp : pickB e f i k = false) (w : World)
  (hB : Boxes w b (.slice ead e.length ec) (.slice fad f.length fc) i k) (hce : CellsF w ead e b) (hcf : CellsF w fad f b) :
  Calls Tryz.prog 195 #[.pointer (some ⟨b + 1 + 1 + 1,0,none⟩),.pointer (some ⟨b + 1,0,none⟩),.pointer (some ⟨b + 1 + 1,0,none⟩),.pointer (some ⟨b,0,none⟩)] w fun r w' =>
   ∃ n,r = .returned (.float .f64 (f.getD k 0)) ∧ w' = (w.drewN n).setCell ⟨b + 1 + 1 + 1,0,none⟩ (.int .i64 (k + 1)) := by
 obtain ⟨hE,hF,hI,hK,fI,fK⟩ := hB
 unfold pickB at hp
 rw [Bool.or_eq_false_iff] at hp
 obtain ⟨hp1,hp2⟩ := hp
 have hlt : k < f.length := by have := of_decide_eq_false hp1; omega
 obtain ⟨fb,fo,rfl,hfb,hfc⟩ := hcf (by omega)
 have hy := hfc k hlt
 have HY := Lib.hid (h64f _ (getD_mem hlt))
 have hkd : ((k : Int) == (f.length : Int)) = false := by rw [beq_eq_false_iff_ne]; omega
 have hk1 : ((k : Int) + 1 - 1).toNat = k := by omega
 clear hp1 hcf
 by_cases hil : i < e.length
 ·obtain ⟨eb,eo,rfl,heb,hec⟩ := hce (by omega)
  have hx := hec i hil
  have HX := Lib.hid (h64e _ (getD_mem hil))
  have hid : decide ((i : Int) < (e.length : Int)) = true := by simp; omega
  have hfl : flt (e.getD i 0 % 2 ^ 63) (f.getD k 0 % 2 ^ 63) = false := by
   rw [show decide (i < e.length) = true by simpa using hil,Bool.true_and] at hp2
   exact hp2
  clear hec hfc hce h64e h64f hp2
  generalize e.getD i 0 = x at *
  generalize f.getD k 0 = y at *
  go_enter Tryz.func195,Tryz.ntmps195
  go_wp2
  go_quiet ((go_at_call 130; (first | exact qleft (abs_any x HX.out _) | exact qleft (abs_any y HY.out _))))
  go_wp2
  go_ret
  exact ⟨_,rfl,rfl⟩
 ·have hid : decide ((i : Int) < (e.length : Int)) = false := by simp; omega
  clear hfc hce h64e h64f hp2
  generalize f.getD k 0 = y at *
  go_enter Tryz.func195,Tryz.ntmps195
  go_wp2
  go_quiet (fail)
  go_wp2
  go_ret
  exact ⟨_,rfl,rfl⟩
def mst (e f : List Nat) : Nat → Nat × Nat × List Nat
 | 0 => (0,0,[])
 | n + 1 => if pickB e f (mst e f n).1 (mst e f n).2.1 then ((mst e f n).1 + 1,(mst e f n).2.1,growW (e.getD (mst e f n).1 0) (mst e f n).2.2)
  else ((mst e f n).1,(mst e f n).2.1 + 1,growW (f.getD (mst e f n).2.1 0) (mst e f n).2.2)
theorem mst_places (e f : List Nat) (n : Nat) (hn : n ≤ e.length + f.length) : (mst e f n).1 ≤ e.length ∧ (mst e f n).2.1 ≤ f.length ∧ (mst e f n).1 + (mst e f n).2.1 = n := by
 induction n with
 | zero => exact ⟨Nat.zero_le _,Nat.zero_le _,rfl⟩
 | succ n ih =>
  obtain ⟨h1,h2,h3⟩ := ih (by omega)
  unfold mst
  generalize mst e f n = s at *
  split
  ·rename_i h
   unfold pickB at h
   rw [Bool.or_eq_true,Bool.and_eq_true] at h
   have : s.1 < e.length := by
    rcases h with h | h
    ·have := of_decide_eq_true h; omega
    ·exact of_decide_eq_true h.1
   exact ⟨by simp; omega,h2,by simp; omega⟩
  ·rename_i h
   have h' : pickB e f s.1 s.2.1 = false := by simpa using h
   unfold pickB at h'
   rw [Bool.or_eq_false_iff] at h'
   have := of_decide_eq_false h'.1
   exact ⟨h1,by simp; omega,by simp; omega⟩
theorem pick_lt {e f : List Nat} {i k : Nat} (h : pickB e f i k = true) (hs : i + k < e.length + f.length) : i < e.length := by
 unfold pickB at h
 rw [Bool.or_eq_true,Bool.and_eq_true] at h
 rcases h with h | h
 ·have := of_decide_eq_true h; omega
 ·exact of_decide_eq_true h.1
theorem growW_len (b : Nat) (l : List Nat) : (growW b l).length ≤ l.length + 1 := by
 unfold growW
 rw [List.length_append]
 have := gout_len l b
 have : (keepF (gq b l)).length ≤ 1 := by unfold keepF; split <;> simp
 omega
structure GFacts (o : List Nat) (n : Nat) (S : Int) (A : Nat) : Prop where
 fins : ∀ x,x ∈ o → fin x
 novs : nov 0 (o.map fval)
 len : o.length ≤ n
 sum : isum (o.map fval) = S
 abs : 2 ^ 40 * absSum (o.map fval) ≤ (2 ^ 40 + 2 * n) * A
def capE : Nat := unitE + 989
theorem capE_ok : capE + 11 ≤ unitE + 1000 := by decide
theorem capE_big : 2 ^ capE * 256 ≤ 2 ^ (unitE + 998) := by
 have e : (256 : Nat) = 2 ^ 8 := rfl
 rw [e,← Nat.pow_add]; exact Nat.pow_le_pow_right (by decide) (by decide)
theorem grow_step {o : List Nat} {n : Nat} {S : Int} {A x : Nat} (h : GFacts o n S A) (hx : fin x) (hn : n ≤ 1000) (hA : A + (fval x).natAbs ≤ 2 ^ capE * 256) :
  runOK x o ∧ GFacts (growW x o) (n + 1) (S + fval x) (A + (fval x).natAbs) := by
 have hb : absSum (o.map fval) ≤ 2 * A := by
  have h1 := h.abs
  have h2 : (2 ^ 40 + 2 * n) * A ≤ 2 ^ 41 * A := Nat.mul_le_mul_right _ (by omega)
  omega
 have hr : runOK x o := by
  refine runOK_of capE capE_ok o x hx h.fins (by have := h.len; omega) ?_
  have hle : 2 ^ capE * 1024 ≤ 2 ^ capE * (2048 - o.length) := Nat.mul_le_mul_left _ (by have := h.len; omega)
  refine Nat.le_trans ?_ hle
  generalize 2 ^ capE = P at *
  generalize (fval x).natAbs = X at *
  omega
 refine ⟨hr,?_⟩
 obtain ⟨v1,v2⟩ := growW_vals hr
 refine ⟨v2,?_,?_,?_,?_⟩
 ·rw [v1]
  exact growGo_nov _ 0 0 _ (rep_fval x) ⟨0,by simp,by simp,fun y _ => by simp⟩ h.novs
 ·have := growW_len x o; have := h.len; omega
 ·rw [v1,growGo_sum,h.sum]; omega
 ·rw [v1]
  have hg := growGo_abs (fval x) (o.map fval) (by rw [List.length_map]; have := h.len; omega)
  have ha := h.abs
  generalize absSum (growGo (fval x) (o.map fval)) = W at *
  generalize absSum (o.map fval) = B at *
  generalize (fval x).natAbs = X at *
  have h1 : 2 ^ 40 * (X + B) ≤ (2 ^ 40 + 2 * n) * (A + X) := by
   rw [Nat.mul_add,Nat.mul_add]
   have : 2 ^ 40 * X ≤ (2 ^ 40 + 2 * n) * X := Nat.mul_le_mul_right _ (by omega)
   omega
  have h2 : (2 ^ 40 + 1) * (2 ^ 40 + 2 * n) ≤ 2 ^ 40 * (2 ^ 40 + 2 * (n + 1)) := by
   have : (2 ^ 40 + 1) * (2 ^ 40 + 2 * n) = 2 ^ 40 * 2 ^ 40 + 2 ^ 40 * (2 * n) + 2 ^ 40 + 2 * n := by
    rw [Nat.add_mul,Nat.mul_add]; omega
   omega
  have h3 : 2 ^ 40 * (2 ^ 40 * W) ≤ 2 ^ 40 * ((2 ^ 40 + 2 * (n + 1)) * (A + X)) := by
   have s1 : 2 ^ 40 * (2 ^ 40 * W) ≤ 2 ^ 40 * ((2 ^ 40 + 1) * (X + B)) := Nat.mul_le_mul_left _ hg
   have s2 : 2 ^ 40 * ((2 ^ 40 + 1) * (X + B)) = (2 ^ 40 + 1) * (2 ^ 40 * (X + B)) := Nat.mul_left_comm _ _ _
   have s3 : (2 ^ 40 + 1) * (2 ^ 40 * (X + B)) ≤ (2 ^ 40 + 1) * ((2 ^ 40 + 2 * n) * (A + X)) := Nat.mul_le_mul_left _ h1
   have s4 : (2 ^ 40 + 1) * ((2 ^ 40 + 2 * n) * (A + X)) ≤ 2 ^ 40 * (2 ^ 40 + 2 * (n + 1)) * (A + X) := by
    rw [← Nat.mul_assoc]; exact Nat.mul_le_mul_right _ h2
   rw [Nat.mul_assoc] at s4
   exact Nat.le_trans s1 (Nat.le_trans (Nat.le_of_eq s2) (Nat.le_trans s3 s4))
  exact Nat.le_of_mul_le_mul_left h3 (by omega)
theorem take_sum (e : List Nat) (i : Nat) (h : i < e.length) : isum ((e.take (i + 1)).map fval) = isum ((e.take i).map fval) + fval (e.getD i 0) ∧ absSum ((e.take (i + 1)).map fval) = absSum ((e.take i).map fval) + (fval (e.getD i 0)).natAbs := by
 rw [take_snoc' e i h,List.map_append,isum_append,absSum_append]
 simp [isum,absSum]
theorem absSum_take (e : List Nat) (i : Nat) : absSum ((e.take i).map fval) ≤ absSum (e.map fval) := by
 have := List.take_append_drop i e
 conv => rhs; rw [← this]
 rw [List.map_append,absSum_append]; omega
theorem mst_facts {e f : List Nat} (he : ∀ x,x ∈ e → fin x) (hf : ∀ x,x ∈ f → fin x) (hlen : e.length + f.length ≤ 1000) (hA : absSum (e.map fval) + absSum (f.map fval) ≤ 2 ^ capE * 256) (n : Nat) (hn : n ≤ e.length + f.length) :
  GFacts (mst e f n).2.2 n (isum ((e.take (mst e f n).1).map fval) + isum ((f.take (mst e f n).2.1).map fval)) (absSum ((e.take (mst e f n).1).map fval) + absSum ((f.take (mst e f n).2.1).map fval)) ∧
  (n < e.length + f.length → (pickB e f (mst e f n).1 (mst e f n).2.1 = true → runOK (e.getD (mst e f n).1 0) (mst e f n).2.2) ∧ (pickB e f (mst e f n).1 (mst e f n).2.1 = false → runOK (f.getD (mst e f n).2.1 0) (mst e f n).2.2)) := by
 have step : ∀ n,n < e.length + f.length → GFacts (mst e f n).2.2 n (isum ((e.take (mst e f n).1).map fval) + isum ((f.take (mst e f n).2.1).map fval)) (absSum ((e.take (mst e f n).1).map fval) + absSum ((f.take (mst e f n).2.1).map fval)) →
   (pickB e f (mst e f n).1 (mst e f n).2.1 = true → (mst e f n).1 < e.length ∧ runOK (e.getD (mst e f n).1 0) (mst e f n).2.2 ∧ GFacts (growW (e.getD (mst e f n).1 0) (mst e f n).2.2) (n + 1) (isum ((e.take ((mst e f n).1 + 1)).map fval) + isum ((f.take (mst e f n).2.1).map fval)) (absSum ((e.take ((mst e f n).1 + 1)).map fval) + absSum ((f.take (mst e f n).2.1).map fval))) ∧
   (pickB e f (mst e f n).1 (mst e f n).2.1 = false → (mst e f n).2.1 < f.length ∧ runOK (f.getD (mst e f n).2.1 0) (mst e f n).2.2 ∧ GFacts (growW (f.getD (mst e f n).2.1 0) (mst e f n).2.2) (n + 1) (isum ((e.take (mst e f n).1).map fval) + isum ((f.take ((mst e f n).2.1 + 1)).map fval)) (absSum ((e.take (mst e f n).1).map fval) + absSum ((f.take ((mst e f n).2.1 + 1)).map fval))) := by
  intro n hn h
  obtain ⟨p1,p2,p3⟩ := mst_places e f n (by omega)
  generalize mst e f n = s at *
  refine ⟨fun hp => ?_,fun hp => ?_⟩
  ·have hi := pick_lt hp (by omega)
   obtain ⟨t1,t2⟩ := take_sum e s.1 hi
   have a1 := absSum_take e (s.1 + 1)
   have a2 := absSum_take f s.2.1
   have g := grow_step h (he _ (getD_mem hi)) (by omega) (by rw [t2] at a1; omega)
   refine ⟨hi,g.1,?_⟩
   have g2 := g.2
   rw [t1,t2]
   rw [show isum ((e.take s.1).map fval) + fval (e.getD s.1 0) + isum ((f.take s.2.1).map fval) = isum ((e.take s.1).map fval) + isum ((f.take s.2.1).map fval) + fval (e.getD s.1 0) by omega,
    show absSum ((e.take s.1).map fval) + (fval (e.getD s.1 0)).natAbs + absSum ((f.take s.2.1).map fval) = absSum ((e.take s.1).map fval) + absSum ((f.take s.2.1).map fval) + (fval (e.getD s.1 0)).natAbs by omega]
   exact g2
  ·have hk : s.2.1 < f.length := by
    unfold pickB at hp
    rw [Bool.or_eq_false_iff] at hp
    have := of_decide_eq_false hp.1
    omega
   obtain ⟨t1,t2⟩ := take_sum f s.2.1 hk
   have a1 := absSum_take f (s.2.1 + 1)
   have a2 := absSum_take e s.1
   have g := grow_step h (hf _ (getD_mem hk)) (by omega) (by rw [t2] at a1; omega)
   refine ⟨hk,g.1,?_⟩
   have g2 := g.2
   rw [t1,t2]
   rw [← Int.add_assoc,← Nat.add_assoc]
   exact g2
 have all : ∀ n,n ≤ e.length + f.length → GFacts (mst e f n).2.2 n (isum ((e.take (mst e f n).1).map fval) + isum ((f.take (mst e f n).2.1).map fval)) (absSum ((e.take (mst e f n).1).map fval) + absSum ((f.take (mst e f n).2.1).map fval)) := by
  intro n
  induction n with
  | zero => intro _; exact ⟨fun x hx => by simp [mst] at hx,trivial,by simp [mst],by simp [mst,isum],by simp [mst,absSum]⟩
  | succ n ih =>
   intro hn
   have hs := step n (by omega) (ih (by omega))
   unfold mst
   cases hp : pickB e f (mst e f n).1 (mst e f n).2.1
   ·exact (hs.2 hp).2.2
   ·exact (hs.1 hp).2.2
 refine ⟨all n hn,fun h => ?_⟩
 have hs := step n h (all n hn)
 exact ⟨fun hp => (hs.1 hp).2.1,fun hp => (hs.2 hp).2.1⟩
theorem growW_dvd {o : List Nat} {x : Nat} (hr : runOK x o) (k : Nat) (hx : (2 : Int) ^ k ∣ fval x) (ho : ∀ y,y ∈ o → (2 : Int) ^ k ∣ fval y) : ∀ y,y ∈ growW x o → (2 : Int) ^ k ∣ fval y := by
 obtain ⟨v1,_⟩ := growW_vals hr
 intro y hy
 have : fval y ∈ growGo (fval x) (o.map fval) := by rw [← v1]; exact List.mem_map_of_mem hy
 refine growGo_dvd k _ _ hx ?_ _ this
 intro z hz
 obtain ⟨u,hu,rfl⟩ := List.mem_map.1 hz
 exact ho u hu
def plusW (e f : List Nat) : List Nat := neatW (mst e f (e.length + f.length)).2.2
structure ExpFacts (l : List Nat) (S : Int) : Prop where
 fins : ∀ x,x ∈ l → fin x
 nz : ∀ x,x ∈ l → fval x ≠ 0
 novs : nov 0 (l.map fval)
 sum : isum (l.map fval) = S
 abs : absSum (l.map fval) ≤ 8 * S.natAbs
 all : allB l 1 INF = true
theorem plus_facts {e f : List Nat} (he : ∀ x,x ∈ e → fin x) (hf : ∀ x,x ∈ f → fin x) (hlen : e.length + f.length ≤ 1000) (hA : absSum (e.map fval) + absSum (f.map fval) ≤ 2 ^ capE * 128) :
  runN (mst e f (e.length + f.length)).2.2 ∧ ExpFacts (plusW e f) (isum (e.map fval) + isum (f.map fval)) ∧
  (∀ k : Nat,(∀ x,x ∈ e → (2 : Int) ^ k ∣ fval x) → (∀ x,x ∈ f → (2 : Int) ^ k ∣ fval x) → ∀ x,x ∈ plusW e f → (2 : Int) ^ k ∣ fval x) := by
 have hA' : absSum (e.map fval) + absSum (f.map fval) ≤ 2 ^ capE * 256 := Nat.le_trans hA (Nat.mul_le_mul_left _ (by decide))
 have hall := fun n hn => mst_facts he hf hlen hA' n hn
 obtain ⟨p1,p2,p3⟩ := mst_places e f (e.length + f.length) (Nat.le_refl _)
 have g := (hall _ (Nat.le_refl _)).1
 rw [show (mst e f (e.length + f.length)).1 = e.length by omega,show (mst e f (e.length + f.length)).2.1 = f.length by omega,List.take_of_length_le (Nat.le_refl _),List.take_of_length_le (Nat.le_refl _)] at g
 have hb : absSum ((mst e f (e.length + f.length)).2.2.map fval) ≤ 2 * (absSum (e.map fval) + absSum (f.map fval)) := by
  have h1 := g.abs
  have h2 : (2 ^ 40 + 2 * (e.length + f.length)) * (absSum (e.map fval) + absSum (f.map fval)) ≤ 2 ^ 41 * (absSum (e.map fval) + absSum (f.map fval)) := Nat.mul_le_mul_right _ (by omega)
  omega
 have hb2 : absSum ((mst e f (e.length + f.length)).2.2.map fval) ≤ 2 ^ capE * 256 := by
  generalize 2 ^ capE = P at *
  omega
 have hr : runN (mst e f (e.length + f.length)).2.2 := runN_of capE capE_ok _ g.fins g.novs (by have := g.len; omega) (Nat.le_trans hb2 (Nat.mul_le_mul_left _ (by decide)))
 have nf := neat_facts hr g.novs (by have := g.len; omega) (Nat.le_trans hb2 capE_big)
 refine ⟨hr,⟨nf.fins,nf.nz,nf.novs,by unfold plusW; rw [nf.sum,g.sum],by have := nf.abs; rw [g.sum] at this; exact this,nf.all⟩,?_⟩
 intro k hke hkf
 refine nf.dvd k ?_
 have gen : ∀ n,n ≤ e.length + f.length → ∀ x,x ∈ (mst e f n).2.2 → (2 : Int) ^ k ∣ fval x := by
  intro n
  induction n with
  | zero => intro _ x hx; simp [mst] at hx
  | succ n ih =>
   intro hn
   obtain ⟨q1,q2,q3⟩ := mst_places e f n (by omega)
   have hs := (hall n (by omega)).2 (by omega)
   have ih' := ih (by omega)
   unfold mst
   cases hp : pickB e f (mst e f n).1 (mst e f n).2.1
   ·have hk : (mst e f n).2.1 < f.length := by
     have hp' := hp
     unfold pickB at hp'
     rw [Bool.or_eq_false_iff] at hp'
     have := of_decide_eq_false hp'.1
     omega
    exact growW_dvd (hs.2 hp) k (hkf _ (getD_mem hk)) ih'
   ·exact growW_dvd (hs.1 hp) k (hke _ (getD_mem (pick_lt hp (by omega)))) ih'
 exact gen _ (Nat.le_refl _)
theorem boxes_I {w : World} {b : Nat} {ve vf : Value} {i k : Nat} (h : Boxes w b ve vf i k) (n : Nat) : Boxes ((w.drewN n).setCell ⟨b + 1 + 1,0,none⟩ (.int .i64 (i + 1))) b ve vf (i + 1) k := by
 obtain ⟨h1,h2,h3,h4,h5,h6⟩ := h
 refine ⟨?_,?_,?_,?_,?_,?_⟩
 ·rw [World.cell?_setCell_far _ _ _ _ (by dsimp only; omega)]; exact h1
 ·rw [World.cell?_setCell_far _ _ _ _ (by dsimp only; omega)]; exact h2
 ·exact World.cell?_setCell_same (w.drewN n) _ _ h3
 ·rw [World.cell?_setCell_far _ _ _ _ (by dsimp only; omega)]; exact h4
 ·rw [World.frozen?_setCell]; exact h5
 ·rw [World.frozen?_setCell]; exact h6
theorem boxes_K {w : World} {b : Nat} {ve vf : Value} {i k : Nat} (h : Boxes w b ve vf i k) (n : Nat) : Boxes ((w.drewN n).setCell ⟨b + 1 + 1 + 1,0,none⟩ (.int .i64 (k + 1))) b ve vf i (k + 1) := by
 obtain ⟨h1,h2,h3,h4,h5,h6⟩ := h
 refine ⟨?_,?_,?_,?_,?_,?_⟩
 ·rw [World.cell?_setCell_far _ _ _ _ (by dsimp only; omega)]; exact h1
 ·rw [World.cell?_setCell_far _ _ _ _ (by dsimp only; omega)]; exact h2
 ·rw [World.cell?_setCell_far _ _ _ _ (by dsimp only; omega)]; exact h3
 ·exact World.cell?_setCell_same (w.drewN n) _ _ h4
 ·rw [World.frozen?_setCell]; exact h5
 ·rw [World.frozen?_setCell]; exact h6
theorem boxes_below {w w' : World} {b : Nat} {ve vf : Value} {i k : Nat} (h : Boxes w b ve vf i k) (hb : Below w.heap.size w w') (hs : b + 4 ≤ w.heap.size) : Boxes w' b ve vf i k := by
 obtain ⟨h1,h2,h3,h4,h5,h6⟩ := h
 refine ⟨?_,?_,?_,?_,?_,?_⟩
 ·rw [hb.cell (p := ⟨b,0,none⟩) (by simp; omega)]; exact h1
 ·rw [hb.cell (p := ⟨b + 1,0,none⟩) (by simp; omega)]; exact h2
 ·rw [hb.cell (p := ⟨b + 1 + 1,0,none⟩) (by simp; omega)]; exact h3
 ·rw [hb.cell (p := ⟨b + 1 + 1 + 1,0,none⟩) (by simp; omega)]; exact h4
 ·rw [hb.frozen (p := ⟨b + 1 + 1,0,none⟩) (by simp; omega)]; exact h5
 ·rw [hb.frozen (p := ⟨b + 1 + 1 + 1,0,none⟩) (by simp; omega)]; exact h6
theorem boxes_start (w : World) (ve vf : Value) (T : TypeId) : Boxes ((((w.alloc (Obj.cells #[ve] T)).alloc (Obj.cells #[vf] T)).alloc (Obj.cells #[Value.int .i64 0] 3)).alloc (Obj.cells #[Value.int .i64 0] 3)) w.heap.size ve vf 0 0 := by
 refine ⟨?_,?_,?_,?_,?_,?_⟩
 ·rw [World.cell?_alloc_past _ _ _ (by simp <;> omega),World.cell?_alloc_past _ _ _ (by simp <;> omega),World.cell?_alloc_past _ _ _ (by simp),World.cell?_alloc_at _ _ _ _ rfl]; rfl
 ·rw [World.cell?_alloc_past _ _ _ (by simp <;> omega),World.cell?_alloc_past _ _ _ (by simp),World.cell?_alloc_at _ _ _ _ (by simp)]; rfl
 ·rw [World.cell?_alloc_past _ _ _ (by simp),World.cell?_alloc_at _ _ _ _ (by simp)]; rfl
 ·rw [World.cell?_alloc_at _ _ _ _ (by simp)]; rfl
 ·rw [World.frozen?_alloc_past _ _ _ (by simp)]; exact World.frozen?_alloc_at _ _ _ _ (by simp)
 ·exact World.frozen?_alloc_at _ _ _ _ (by simp)
theorem own_setCell {w : World} {base : Nat} {e : TypeId} {size : Nat} {v : Value} {n : Nat} {xs : List Value} (h : w.ownsRow base e size v n xs) (m : Nat) (p : Addr) (u : Value) (hp : p.block < base) : ((w.drewN m).setCell p u).ownsRow base e size v n xs := by
 obtain ⟨h1,h2 | ⟨g,cap,cur,e1,e2,e3,e4⟩⟩ := h
 ·exact ⟨h1,Or.inl h2⟩
 ·refine ⟨h1,Or.inr ⟨g,cap,cur,e1,e2,?_,e4⟩⟩
  rw [Below.heap_setCell _ _ _ _ (by omega)]; exact e3
theorem cellsF_below {w w' : World} {ad : Option Addr} {l : List Nat} {b : Nat} (h : CellsF w ad l b) (hb : Below b w w') : CellsF w' ad l b := by
 intro h0
 obtain ⟨bb,off,e,hlt,hc⟩ := h h0
 exact ⟨bb,off,e,hlt,fun i hi => by rw [hb.cell (p := ⟨bb,off + i,none⟩) hlt]; exact hc i hi⟩
def nextX (e f : List Nat) (s : Nat × Nat × List Nat) : Nat := if pickB e f s.1 s.2.1 then e.getD s.1 0 else f.getD s.2.1 0
def nextI (e f : List Nat) (s : Nat × Nat × List Nat) : Nat := if pickB e f s.1 s.2.1 then s.1 + 1 else s.1
def nextK (e f : List Nat) (s : Nat × Nat × List Nat) : Nat := if pickB e f s.1 s.2.1 then s.2.1 else s.2.1 + 1
theorem mst_succ (e f : List Nat) (n : Nat) : mst e f (n + 1) = (nextI e f (mst e f n),nextK e f (mst e f n),growW (nextX e f (mst e f n)) (mst e f n).2.2) := by
 show (if pickB e f (mst e f n).1 (mst e f n).2.1 then _ else _) = _
 unfold nextI nextK nextX
 split <;> rfl
theorem next_any (e f : List Nat) (b : Nat) (ead fad : Option Addr) (ec fc : Nat) (s : Nat × Nat × List Nat) (hle : e.length ≤ 4294967296) (hlf : f.length ≤ 4294967296) (h64e : ∀ x,x ∈ e → x < 2 ^ 64) (h64f : ∀ x,x ∈ f → x < 2 ^ 64) (hk : s.2.1 ≤ f.length) (hi : s.1 ≤ e.length) (hs : s.1 + s.2.1 < e.length + f.length) (w : World)
  (hB : Boxes w b (.slice ead e.length ec) (.slice fad f.length fc) s.1 s.2.1) (hce : CellsF w ead e b) (hcf : CellsF w fad f b) :
  Calls Tryz.prog 195 #[.pointer (some ⟨b + 1 + 1 + 1,0,none⟩),.pointer (some ⟨b + 1,0,none⟩),.pointer (some ⟨b + 1 + 1,0,none⟩),.pointer (some ⟨b,0,none⟩)] w fun r w' =>
   r = .returned (.float .f64 (nextX e f s)) ∧ Boxes w' b (.slice ead e.length ec) (.slice fad f.length fc) (nextI e f s) (nextK e f s) ∧ Below b w w' ∧ w'.heap.size = w.heap.size ∧ ∀ v xs,OwnF w (b + 4) v xs → OwnF w' (b + 4) v xs := by
 have hsz : ∀ (m : Nat) (p : Addr) (u : Value),((w.drewN m).setCell p u).heap.size = w.heap.size := fun m p u => by simp [World.setCell]
 have hdb : ∀ m,Below b w (w.drewN m) := fun m => ⟨rfl,rfl,rfl,Nat.le_refl _,fun _ _ => rfl⟩
 unfold nextX nextI nextK
 cases hp : pickB e f s.1 s.2.1
 ·exact (next_f e f b ead fad ec fc s.1 s.2.1 hle hlf h64e h64f hk hi hp w hB hce hcf).mono fun r w' ⟨n,h1,h2⟩ =>
   ⟨h1,by rw [h2]; exact boxes_K hB n,by rw [h2]; exact (hdb n).setCell (by dsimp only; omega) _,by rw [h2,hsz],fun v xs h => by rw [h2]; exact own_setCell h n _ _ (by dsimp only; omega)⟩
 ·exact (next_e e f b ead fad ec fc s.1 s.2.1 hle hlf h64e h64f hk (pick_lt hp hs) hp w hB hce hcf).mono fun r w' ⟨n,h1,h2⟩ =>
   ⟨h1,by rw [h2]; exact boxes_I hB n,by rw [h2]; exact (hdb n).setCell (by dsimp only; omega) _,by rw [h2,hsz],fun v xs h => by rw [h2]; exact own_setCell h n _ _ (by dsimp only; omega)⟩
theorem plus_walk (e f : List Nat) (ve vf : Value) (he : ∀ x,x ∈ e → fin x) (hf : ∀ x,x ∈ f → fin x) (hlen : e.length + f.length ≤ 1000) (hA : absSum (e.map fval) + absSum (f.map fval) ≤ 2 ^ capE * 128) (w : World) (hve : FSl w ve e) (hvf : FSl w vf f) :
  Calls Tryz.prog 156 #[ve,vf] w fun r w' => ∃ v', r = .returned v' ∧ FSl w' v' (plusW e f) ∧ Below w.heap.size w w' := by
 have h64e := hve.2.1
 have h64f := hvf.2.1
 obtain ⟨ead,ec,rfl,hce⟩ := hve.form
 obtain ⟨fad,fc,rfl,hcf⟩ := hvf.form
 have hce : CellsF w ead e w.heap.size := fun h => by obtain ⟨b,off,h1,h2,h3⟩ := hce h; exact ⟨b,off,h1,h2,h3⟩
 have hcf : CellsF w fad f w.heap.size := fun h => by obtain ⟨b,off,h1,h2,h3⟩ := hcf h; exact ⟨b,off,h1,h2,h3⟩
 have HP := Lib.hid (plus_facts he hf hlen hA)
 have HM := Lib.hid (fun n hn => mst_facts he hf hlen (Nat.le_trans hA (Nat.mul_le_mul_left _ (by decide))) n hn)
 have H64e := Lib.hid h64e
 have H64f := Lib.hid h64f
 have HCE := Lib.hid hce
 have HCF := Lib.hid hcf
 have hmf : ∀ (fn : Fn) (first cap : Array Value) (w : World),(Instr.makeFunc fn first cap).run Tryz.prog w = .ok (.func fn first cap) w := fun _ _ _ _ => rfl
 clear hve hvf he hf hA h64e h64f hce hcf
 go_enter Tryz.func156,Tryz.ntmps156
 go_wp2
 go_loopw [8,15] (fun out c wr => ∃ n : Nat,n ≤ e.length + f.length ∧ c = .int .i64 n ∧ Boxes wr w.heap.size (.slice ead e.length ec) (.slice fad f.length fc) (mst e f n).1 (mst e f n).2.1 ∧ OwnF wr (w.heap.size + 4) out (mst e f n).2.2 ∧ Below w.heap.size w wr ∧ w.heap.size + 4 ≤ wr.heap.size) (fun _ c _ => e.length + f.length - (intOf c).toNat)
 case atStart => exact ⟨0,Nat.zero_le _,rfl,boxes_start w _ _ _,World.ownsRow_nil _ _ _ _,((((Below.refl _ _).alloc (Nat.le_refl _) _).alloc (by simp) _).alloc (by simp; omega) _).alloc (by simp; omega) _,by simp⟩
 case round =>
  obtain ⟨n,hn,rfl,hB,hown,hbw,hsz⟩ := hrel
  by_cases hlt : n < e.length + f.length
  ·obtain ⟨p1,p2,p3⟩ := mst_places e f n hn
   have hrun := (HM.out n hn).2 hlt
   have hg := (HM.out n hn).1
   have HN := Lib.hid (next_any e f w.heap.size ead fad ec fc (mst e f n) (by omega) (by omega) H64e.out H64f.out p2 p1 (by omega) wr hB (cellsF_below HCE.out hbw) (cellsF_below HCF.out hbw))
   have HST := Lib.hid (mst_succ e f n)
   have hrx : runOK (nextX e f (mst e f n)) (mst e f n).2.2 := by
    unfold nextX
    cases hp : pickB e f (mst e f n).1 (mst e f n).2.1
    ·exact hrun.2 hp
    ·exact hrun.1 hp
   have HG := Lib.hid (grow_walk (mst e f n).2.2)
   have HRX := Lib.hid hrx
   have HGF : Hid ((mst e f n).2.2.length ≤ 1000 ∧ ∀ x,x ∈ (mst e f n).2.2 → x < 2 ^ 64) := ⟨by have := hg.len; omega,fun x hx => (hg.fins x hx).1⟩
   have hltI : (n : Int) < (e.length : Int) + (f.length : Int) := by omega
   clear hrun hg hB p1 p2 p3 hrx
   generalize nextX e f (mst e f n) = X at *
   generalize nextI e f (mst e f n) = I' at *
   generalize nextK e f (mst e f n) = K' at *
   generalize (mst e f n).2.2 = o at *
   go_wp2_with (first
    |(go_at_call 195; refine HN.out.mono ?_; rintro r w1 ⟨rfl,hB1,hb1,hs1,ho1⟩; have hown1 := ho1 _ _ hown; have hB2 := Lib.hid hB1; clear hB1 ho1 hown)
    |(go_at_call 196; refine (HG.out _ X HRX.out (by have := HGF.out.1; omega) _ (FSl_of_own hown1 (by have := HGF.out.1; omega) HGF.out.2)).mono ?_; rintro r w2 ⟨v2,rfl,hown2,hb2⟩))
   go_roundw
   case rel =>
    have hsz2 := hb2.size
    refine ⟨n + 1,by omega,by go_num,?_,?_,?_,?_⟩
    ·rw [HST.out]; exact boxes_below hB2.out hb2 (by omega)
    ·rw [HST.out]; exact ownsRow_base hown2 (by omega)
    ·exact (hbw.trans hb1).trans (hb2.mono (by omega))
    ·omega
   case measure => simp [intOf]; omega
  ·have hnl : n = e.length + f.length := by omega
   subst hnl
   have hg := (HM.out _ (Nat.le_refl _)).1
   obtain ⟨hrN,hF,_⟩ := HP.out
   have hl64 : (plusW e f).length ≤ 64 := by
    have := hF.all
    unfold allB at this
    rw [Bool.and_eq_true] at this
    exact of_decide_eq_true this.1
   have HF := Lib.hid hF
   have HN : Hid (∀ w v,FSl w v (mst e f (e.length + f.length)).2.2 → Calls Tryz.prog 198 #[v] w fun r w' => ∃ v', r = .returned v' ∧ OwnF w' w.heap.size v' (plusW e f) ∧ Below w.heap.size w w') :=
    fun w v hv => neat_walk (mst e f (e.length + f.length)).2.2 v hrN (by have := hg.len; omega) w hv
   have HO : Hid (FSl wr u8 (mst e f (e.length + f.length)).2.2) := FSl_of_own hown (by have := hg.len; omega) (fun x hx => (hg.fins x hx).1)
   have HPL := Lib.hid hl64
   clear hg hrN hF hB hl64 HM hown
   go_wp2_with (first
    |(go_at_call 198; refine (HN.out _ _ HO.out).mono ?_; rintro r w1 ⟨v1,rfl,hown1,hb1⟩; have hfs := FSl_of_own hown1 (by have := HPL.out; omega) (fun x hx => (HF.out.fins x hx).1))
    |(go_at_call 197; refine (apart_walk (plusW e f) _ HF.out.fins HF.out.all _ hfs).mono ?_; rintro r w2 ⟨rfl,rfl⟩))
   go_ret
   exact ⟨_,rfl,hfs,hbw.trans (hb1.mono (by omega))⟩
end Go.Proofs.YtbagikgpgdlkcaaGreatDoor
