/- Part of the proof. No conditions. -/
import Derived.Test.YtbagikgpgdlkcaaGreatDoorZC
import Derived.Test.YtbagikgpgdlkcaaGreatDoorZK
set_option linter.all false
set_option maxHeartbeats 8000000
set_option maxRecDepth 100000
namespace Go.Proofs.YtbagikgpgdlkcaaGreatDoor
open Go.RowKit Tvf Go.Maps Go.WideMaps
def NumX (e : Nat) (t : Int) (W : World) (r : Ending) (w' : World) : Prop := ∃ (k ee : Int) (ad : Option Addr) (l c : Nat),r = .returned (.agg #[.int .i64 (sgnI k),.slice ad l c,.int .i64 ee]) ∧ Hid (NumK w' (.agg #[.int .i64 (sgnI k),.slice ad l c,.int .i64 ee]) e k) ∧ Hid (k * (BB ^ 200 : Nat) = t) ∧ Hid (Below W.heap.size W w')
theorem mulX {w : World} {u v : Value} {e1 e2 : Nat} {a b : Int} (hu : NumK w u e1 a) (hv : NumK w v e2 b) (he : e1 + e2 ≤ 190) : Calls Tryz.prog 123 #[u,v] w (NumX (e1 + e2) (a * b) w) := by
 refine (mulK hu hv he).mono ?_
 rintro r w' ⟨z,k,rfl,hz,hk,hb⟩
 obtain ⟨s,ee,ad,l,c,rfl,rfl⟩ := hz.agg
 exact ⟨k,ee,ad,l,c,rfl,hz,hk,hb⟩
theorem addR {w : World} {u v : Value} {e : Nat} {a b : Int} (hu : NumK w u e a) (hv : NumK w v e b) (he : e + 1 ≤ 190) : Calls Tryz.prog 160 #[u,v] w (NumR (e + 1) (a + b) w) := numR (addK hu hv he)
theorem subR {w : World} {u v : Value} {e : Nat} {a b : Int} (hu : NumK w u e a) (hv : NumK w v e b) (he : e + 1 ≤ 190) : Calls Tryz.prog 125 #[u,v] w (NumR (e + 1) (a - b) w) := numR (by
 refine (subK hu hv he).mono ?_
 rintro r w' ⟨z,rfl,h1,h2⟩
 exact ⟨z,rfl,h1.out,h2.out⟩)
def Twl (W : World) (b : Nat) (x0 x1 x2 y0 y1 y2 z0 z1 z2 u0 u1 u2 : Value) : Prop := Box3 tNum W b x0 x1 x2 ∧ Box3 tNum W (b + 1) y0 y1 y2 ∧ Box3 tNum W (b + 1 + 1) z0 z1 z2 ∧ Box3 tNum W (b + 1 + 1 + 1) u0 u1 u2
section
variable {W W' : World} {b : Nat} {x0 x1 x2 y0 y1 y2 z0 z1 z2 u0 u1 u2 : Value}
theorem Twl.o (h : Twl W b x0 x1 x2 y0 y1 y2 z0 z1 z2 u0 u1 u2) : W.cell? ⟨b,0,none⟩ = some x0 ∧ W.cell? ⟨b,1,none⟩ = some x1 ∧ W.cell? ⟨b,2,none⟩ = some x2 ∧ W.cell? ⟨b + 1,0,none⟩ = some y0 ∧ W.cell? ⟨b + 1,1,none⟩ = some y1 ∧ W.cell? ⟨b + 1,2,none⟩ = some y2 ∧
  W.cell? ⟨b + 1 + 1,0,none⟩ = some z0 ∧ W.cell? ⟨b + 1 + 1,1,none⟩ = some z1 ∧ W.cell? ⟨b + 1 + 1,2,none⟩ = some z2 ∧ W.cell? ⟨b + 1 + 1 + 1,0,none⟩ = some u0 ∧ W.cell? ⟨b + 1 + 1 + 1,1,none⟩ = some u1 ∧ W.cell? ⟨b + 1 + 1 + 1,2,none⟩ = some u2 :=
 ⟨h.1.c.1,h.1.c.2.1,h.1.c.2.2,h.2.1.c.1,h.2.1.c.2.1,h.2.1.c.2.2,h.2.2.1.c.1,h.2.2.1.c.2.1,h.2.2.1.c.2.2,h.2.2.2.c.1,h.2.2.2.c.2.1,h.2.2.2.c.2.2⟩
theorem Twl.below (h : Twl W b x0 x1 x2 y0 y1 y2 z0 z1 z2 u0 u1 u2) (hb : Below W.heap.size W W') : Twl W' b x0 x1 x2 y0 y1 y2 z0 z1 z2 u0 u1 u2 := ⟨Box3.below h.1 hb,Box3.below h.2.1 hb,Box3.below h.2.2.1 hb,Box3.below h.2.2.2 hb⟩
theorem Twl.put {r : Nat} (h : Twl W b x0 x1 x2 y0 y1 y2 z0 z1 z2 u0 u1 u2) (hr : b + 1 + 1 + 1 < r) (v0 v1 v2 : Value) : Twl (((W.setCell ⟨r,0,none⟩ v0).setCell ⟨r,1,none⟩ v1).setCell ⟨r,2,none⟩ v2) b x0 x1 x2 y0 y1 y2 z0 z1 z2 u0 u1 u2 := by
 have f : ∀ {p : Nat} {a c d : Value},p ≠ r → Box3 tNum W p a c d → Box3 tNum (((W.setCell ⟨r,0,none⟩ v0).setCell ⟨r,1,none⟩ v1).setCell ⟨r,2,none⟩ v2) p a c d := fun hp h => ((h.far hp v0).far hp v1).far hp v2
 exact ⟨f (by omega) h.1,f (by omega) h.2.1,f (by omega) h.2.2.1,f (by omega) h.2.2.2⟩
theorem Twl.made (w : World) (R : Obj) : ∃ WX : World,WX = ((((w.alloc (.cells #[x0,x1,x2] tNum)).alloc (.cells #[y0,y1,y2] tNum)).alloc (.cells #[z0,z1,z2] tNum)).alloc (.cells #[u0,u1,u2] tNum)).alloc R ∧ Twl WX w.heap.size x0 x1 x2 y0 y1 y2 z0 z1 z2 u0 u1 u2 ∧ Below w.heap.size w WX ∧ WX.heap.size = w.heap.size + 1 + 1 + 1 + 1 + 1 := by
 refine ⟨_,rfl,⟨?_,?_,?_,?_⟩,?_,by simp⟩
 ·exact ((((Box3.new w x0 x1 x2 tNum).al _).al _).al _).al _
 ·have := Box3.new (w.alloc (.cells #[x0,x1,x2] tNum)) y0 y1 y2 tNum
  rw [show (w.alloc (.cells #[x0,x1,x2] tNum)).heap.size = w.heap.size + 1 from by simp] at this
  exact ((this.al _).al _).al _
 ·have := Box3.new ((w.alloc (.cells #[x0,x1,x2] tNum)).alloc (.cells #[y0,y1,y2] tNum)) z0 z1 z2 tNum
  rw [show ((w.alloc (.cells #[x0,x1,x2] tNum)).alloc (.cells #[y0,y1,y2] tNum)).heap.size = w.heap.size + 1 + 1 from by simp] at this
  exact (this.al _).al _
 ·have := Box3.new (((w.alloc (.cells #[x0,x1,x2] tNum)).alloc (.cells #[y0,y1,y2] tNum)).alloc (.cells #[z0,z1,z2] tNum)) u0 u1 u2 tNum
  rw [show (((w.alloc (.cells #[x0,x1,x2] tNum)).alloc (.cells #[y0,y1,y2] tNum)).alloc (.cells #[z0,z1,z2] tNum)).heap.size = w.heap.size + 1 + 1 + 1 from by simp] at this
  exact this.al _
 ·exact ((((Below.refl _ w).alloc (Nat.le_refl _) _).alloc (by simp) _).alloc (by simp <;> omega) _ |>.alloc (by simp <;> omega) _).alloc (by simp <;> omega) _
end
theorem cross05 {w : World} {x y z u : Value} {p q : Nat} {kx ky kz ku : Int} (hx : NumK w x p kx) (hy : NumK w y q ky) (hz : NumK w z p kz) (hu : NumK w u q ku) (he : p + q + 1 ≤ 190) :
  Calls Tryz.prog 161 #[x,y,z,u] w (NumX (p + q + 1) (kx * ku - kz * ky) w) := by
 have HX := Lib.hid (fun W (hb : Below w.heap.size w W) => mulX (hx.below hb) (hu.below hb) (by omega))
 have HY := Lib.hid (fun W (hb : Below w.heap.size w W) => mulX (hz.below hb) (hy.below hb) (by omega))
 have HS : Hid (∀ W a b ka kb,NumK W a (p + q) ka → NumK W b (p + q) kb → Calls Tryz.prog 125 #[a,b] W (NumR (p + q + 1) (ka - kb) W)) := fun W a b ka kb ha hb => subR ha hb he
 obtain ⟨s1,e1,ad1,l1,c1,rfl,-⟩ := hx.agg
 obtain ⟨s2,e2,ad2,l2,c2,rfl,-⟩ := hy.agg
 obtain ⟨s3,e3,ad3,l3,c3,rfl,-⟩ := hz.agg
 obtain ⟨s4,e4,ad4,l4,c4,rfl,-⟩ := hu.agg
 clear hx hy hz hu he
 obtain ⟨WX,hWX,hK,hBW,hSZ⟩ := Twl.made (x0 := .int .i64 s1) (x1 := .slice ad1 l1 c1) (x2 := .int .i64 e1) (y0 := .int .i64 s2) (y1 := .slice ad2 l2 c2) (y2 := .int .i64 e2) (z0 := .int .i64 s3) (z1 := .slice ad3 l3 c3) (z2 := .int .i64 e3) (u0 := .int .i64 s4) (u1 := .slice ad4 l4 c4) (u2 := .int .i64 e4) w (.cells #[.int .i64 0,.slice none 0 0,.int .i64 0] tNum)
 have HR0 : Hid (Box3 tNum WX (w.heap.size + 1 + 1 + 1 + 1) (.int .i64 0) (.slice none 0 0) (.int .i64 0)) := by
  have := Box3.new ((((w.alloc (.cells #[.int .i64 s1,.slice ad1 l1 c1,.int .i64 e1] tNum)).alloc (.cells #[.int .i64 s2,.slice ad2 l2 c2,.int .i64 e2] tNum)).alloc (.cells #[.int .i64 s3,.slice ad3 l3 c3,.int .i64 e3] tNum)).alloc (.cells #[.int .i64 s4,.slice ad4 l4 c4,.int .i64 e4] tNum)) (.int .i64 0) (.slice none 0 0) (.int .i64 0) tNum
  rw [← hWX] at this
  rwa [show ((((w.alloc (.cells #[.int .i64 s1,.slice ad1 l1 c1,.int .i64 e1] tNum)).alloc (.cells #[.int .i64 s2,.slice ad2 l2 c2,.int .i64 e2] tNum)).alloc (.cells #[.int .i64 s3,.slice ad3 l3 c3,.int .i64 e3] tNum)).alloc (.cells #[.int .i64 s4,.slice ad4 l4 c4,.int .i64 e4] tNum)).heap.size = w.heap.size + 1 + 1 + 1 + 1 from by simp] at this
 have HW := Lib.hid hWX
 have HK := Lib.hid (fun W (hb : Below WX.heap.size WX W) => hK.below hb)
 have HBW := Lib.hid hBW
 have B0 : Hid (Below WX.heap.size WX WX.drew) := (Below.refl _ _).drew
 have n0 := (HK.out _ B0.out).o
 clear hWX hK hBW hSZ
 go_enter Tryz.func161,Tryz.ntmps161
 go_upto_region 1 with fail
 rw [← HW.out]
 go_region_held3 (fun W => W.cell? ⟨w.heap.size,0,none⟩ = some (.int .i64 s1) ∧ W.cell? ⟨w.heap.size,1,none⟩ = some (.slice ad1 l1 c1) ∧ W.cell? ⟨w.heap.size,2,none⟩ = some (.int .i64 e1) ∧ W.cell? ⟨w.heap.size + 1,0,none⟩ = some (.int .i64 s2) ∧ W.cell? ⟨w.heap.size + 1,1,none⟩ = some (.slice ad2 l2 c2) ∧ W.cell? ⟨w.heap.size + 1,2,none⟩ = some (.int .i64 e2) ∧
   W.cell? ⟨w.heap.size + 1 + 1,0,none⟩ = some (.int .i64 s3) ∧ W.cell? ⟨w.heap.size + 1 + 1,1,none⟩ = some (.slice ad3 l3 c3) ∧ W.cell? ⟨w.heap.size + 1 + 1,2,none⟩ = some (.int .i64 e3) ∧ W.cell? ⟨w.heap.size + 1 + 1 + 1,0,none⟩ = some (.int .i64 s4) ∧ W.cell? ⟨w.heap.size + 1 + 1 + 1,1,none⟩ = some (.slice ad4 l4 c4) ∧ W.cell? ⟨w.heap.size + 1 + 1 + 1,2,none⟩ = some (.int .i64 e4))
  (first | with_reducible exact n0 | with_reducible exact n1 | with_reducible exact n2 | with_reducible exact n3 | with_reducible exact n4 _ _ _)
  (first
   |(go_at_call 123; (with_reducible refine (HX.out _ (bseq HBW.out B0.out)).mono ?_); rintro r w1 ⟨k1,f1,b1,m1,d1,rfl,HZ1,HQ1,hb1⟩; have B1 := Lib.hid (bseq B0.out hb1.out); have n1 := (HK.out _ B1.out).o)
   |(go_at_call 123; (with_reducible refine (HY.out _ (bseq HBW.out B1.out)).mono ?_); rintro r w2 ⟨k2,f2,b2,m2,d2,rfl,HZ2,HQ2,hb2⟩; have B2 := Lib.hid (bseq B1.out hb2.out); have HZ1b := Lib.hid (HZ1.out.below hb2.out); have n2 := (HK.out _ B2.out).o)
   |(go_at_call 125; (with_reducible refine (HS.out _ _ _ _ _ HZ1b.out HZ2.out).mono ?_); rintro r w3 ⟨f3,b3,m3,d3,rfl,HZ3,hb3⟩; have B3 := Lib.hid (bseq B2.out hb3.out); have n3 := (HK.out _ B3.out).o; have R3 := Lib.hid (Box3.below HR0.out B3.out); obtain ⟨r0,r1,r2⟩ := R3.out.c; have g0 := R3.out.fz 0; have g1 := R3.out.fz 1; have g2 := R3.out.fz 2; have n4 := fun v0 v1 v2 => ((HK.out _ B3.out).put (r := w.heap.size + 1 + 1 + 1 + 1) (by omega) v0 v1 v2).o))
 all_goals
  obtain ⟨h0,h1,h2⟩ := (R3.out.put (.int .i64 (sgnI (k1 - k2))) (.slice b3 m3 d3) (.int .i64 f3)).c
  have HZ := Lib.hid (HZ3.out.put R3.out (.int .i64 (sgnI (k1 - k2))) (.slice b3 m3 d3) (.int .i64 f3))
  have HBZ := Lib.hid (below_put (x := .int .i64 (sgnI (k1 - k2))) (y := .slice b3 m3 d3) (z := .int .i64 f3) (b := w.heap.size + 1 + 1 + 1 + 1) (bseq HBW.out B3.out) (by omega))
  clear n0 n1 n2 n3 n4 r0 r1 r2 g0 g1 g2 HX HY HS
  go_wp2
  refine bodyPost_ret (by simp [results,Tryz.results161,go_sem,h0,h1,h2]; try rfl) rfl ?_
  exact ⟨k1 - k2,f3,b3,m3,d3,rfl,HZ.out,by unfold Hid; rw [Int.sub_mul,HQ1.out,HQ2.out],HBZ.out⟩
abbrev NumT := Int × Option Addr × Nat × Nat × Int
def encN (x : NumT) : List Value := [.int .i64 x.1,.slice x.2.1 x.2.2.1 x.2.2.2.1,.int .i64 x.2.2.2.2]
def aggN (x : NumT) : Value := .agg #[.int .i64 x.1,.slice x.2.1 x.2.2.1 x.2.2.2.1,.int .i64 x.2.2.2.2]
theorem encN_one (x : NumT) : ∀ u ∈ encN x,u.oneCell' = true := by
 intro u hu
 simp only [encN,List.mem_cons,List.not_mem_nil,or_false] at hu
 rcases hu with rfl | rfl | rfl <;> rfl
def N3 (W : World) (b o : Nat) (x : NumT) : Prop := W.cell? ⟨b,o,none⟩ = some (.int .i64 x.1) ∧ W.cell? ⟨b,o + 1,none⟩ = some (.slice x.2.1 x.2.2.1 x.2.2.2.1) ∧ W.cell? ⟨b,o + 2,none⟩ = some (.int .i64 x.2.2.2.2)
theorem N3.below {W W' : World} {b o : Nat} {x : NumT} (h : N3 W b o x) (hb : Below W.heap.size W W') : N3 W' b o x := ⟨cell_keep h.1 hb,cell_keep h.2.1 hb,cell_keep h.2.2 hb⟩
def NC (W : World) (b e : Nat) (k : Nat → Int) : Prop := ∀ j,j < 3 → ∃ x : NumT,N3 W b (j * 3) x ∧ NumK W (aggN x) e (k j)
theorem NC.below {W W' : World} {b e : Nat} {k : Nat → Int} (h : NC W b e k) (hb : Below W.heap.size W W') : NC W' b e k := fun j hj => by
 obtain ⟨x,h1,h2⟩ := h j hj
 exact ⟨x,h1.below hb,h2.below hb⟩
def pk (a b c : Int) (j : Nat) : Int := if j = 0 then a else if j = 1 then b else c
theorem NC.lit {W : World} {T : TypeId} {e : Nat} {k0 k1 k2 : Int} (x y z : NumT) (h0 : NumK W (aggN x) e k0) (h1 : NumK W (aggN y) e k1) (h2 : NumK W (aggN z) e k2) :
  NC (W.alloc (.cells #[.int .i64 x.1,.slice x.2.1 x.2.2.1 x.2.2.2.1,.int .i64 x.2.2.2.2,.int .i64 y.1,.slice y.2.1 y.2.2.1 y.2.2.2.1,.int .i64 y.2.2.2.2,.int .i64 z.1,.slice z.2.1 z.2.2.1 z.2.2.2.1,.int .i64 z.2.2.2.2] T)) W.heap.size e (pk k0 k1 k2) := by
 have hb := (Below.refl W.heap.size W).alloc (Nat.le_refl _) (.cells #[.int .i64 x.1,.slice x.2.1 x.2.2.1 x.2.2.2.1,.int .i64 x.2.2.2.2,.int .i64 y.1,.slice y.2.1 y.2.2.1 y.2.2.2.1,.int .i64 y.2.2.2.2,.int .i64 z.1,.slice z.2.1 z.2.2.1 z.2.2.2.1,.int .i64 z.2.2.2.2] T)
 intro j hj
 have h3 : j = 0 ∨ j = 1 ∨ j = 2 := by omega
 rcases h3 with rfl | rfl | rfl
 ·exact ⟨x,⟨by rw [World.cell?_alloc_at _ _ _ _ rfl]; rfl,by rw [World.cell?_alloc_at _ _ _ _ rfl]; rfl,by rw [World.cell?_alloc_at _ _ _ _ rfl]; rfl⟩,h0.below hb⟩
 ·exact ⟨y,⟨by rw [World.cell?_alloc_at _ _ _ _ rfl]; rfl,by rw [World.cell?_alloc_at _ _ _ _ rfl]; rfl,by rw [World.cell?_alloc_at _ _ _ _ rfl]; rfl⟩,h1.below hb⟩
 ·exact ⟨z,⟨by rw [World.cell?_alloc_at _ _ _ _ rfl]; rfl,by rw [World.cell?_alloc_at _ _ _ _ rfl]; rfl,by rw [World.cell?_alloc_at _ _ _ _ rfl]; rfl⟩,h2.below hb⟩
theorem infoNum : (Tryz.prog.info? tNum).map (fun i => (i.zero,i.size,i.bytes)) = some (some (.agg #[.int .i64 0,.slice none 0 0,.int .i64 0]),3,40) := by kernel_rfl
def ZR (w0 wr : World) (v : Value) (n : Nat) (kx ky : Nat → Int) : Prop := ∃ L : List NumT,L.length = n ∧ wr.ownsRow w0.heap.size tNum 3 v n (cellsK encN L) ∧ Below w0.heap.size w0 wr ∧ ∀ j,j < n → ∃ k,NumK wr (aggN (L.getD j (0,none,0,0,0))) 17 k ∧ k * (BB ^ 200 : Nat) = kx j * kx j + ky j * ky j
theorem ZR.nil {w0 wr : World} {kx ky : Nat → Int} (h : Below w0.heap.size w0 wr) : ZR w0 wr (.slice none 0 0) 0 kx ky := ⟨[],rfl,World.ownsRow_nil _ _ _ _,h,fun j hj => absurd hj (by omega)⟩
theorem ZR.form {w0 wr : World} {v : Value} {n : Nat} {kx ky : Nat → Int} (h : ZR w0 wr v n kx ky) : ∃ g c,v = .slice g n c := by
 obtain ⟨L,_,h1,_⟩ := h
 rcases h1.2 with ⟨h0,h1⟩ | ⟨g,c,cur,h0,_⟩
 ·exact ⟨none,0,by rw [h1]; exact h0⟩
 ·exact ⟨_,_,h0⟩
theorem tNum_ne : ¬(2 : TypeId) = tNum := by decide
theorem DAt.grown {w w' : World} {ad : Option Addr} {D : List Nat} (h : DAt w ad D) {row : Option Nat} (hg : w.grownBy w' row) (hr : ∀ g,row = some g → ∃ cur fz,w.heap[g]? = some (.cells cur tNum fz)) : DAt w' ad D := by
 intro h0
 obtain ⟨b,off,rfl,hb,hc⟩ := h h0
 have hne : some b ≠ row := fun e => by
  obtain ⟨cur,fz,h1⟩ := hr b e.symm
  obtain ⟨cur', fz', h2⟩ := hb
  rw [h1] at h2
  injection h2 with h3
  injection h3 with _ h4 _
  exact tNum_ne h4.symm
 have hs := hg.block b hb.lt hne
 exact ⟨b,off,rfl,hb.same hs,fun i hi => (World.cell?_of_block (a := ⟨b,off + i,none⟩) hs).trans (hc i hi)⟩
theorem NumK.grown {w w' : World} {v : Value} {e : Nat} {k : Int} (h : NumK w v e k) {row : Option Nat} (hg : w.grownBy w' row) (hr : ∀ g,row = some g → ∃ cur fz,w.heap[g]? = some (.cells cur tNum fz)) : NumK w' v e k := by
 obtain ⟨x,⟨ad,ca,rfl,hd,hc⟩,h2,h3,h4⟩ := h
 exact ⟨x,⟨ad,ca,rfl,hd.grown hg hr,hc⟩,h2,h3,h4⟩
theorem own_typed {w : World} {base e size n : Nat} {v : Value} {xs : List Value} (h : w.ownsRow base e size v n xs) : ∀ g,v.ownBlock = some g → ∃ cur fz,w.heap[g]? = some (.cells cur e fz) := by
 intro g hg
 rcases h.2 with ⟨rfl,_⟩ | ⟨g', cap,cur,rfl,_,hh,_⟩
 ·simp [Value.ownBlock] at hg
 ·simp [Value.ownBlock] at hg
  subst hg
  exact ⟨cur,_,hh⟩
theorem zr_push {w0 wr w9 w2 : World} {v : Value} {n g c : Nat} {kx ky : Nat → Int} {L : List NumT} {x : NumT} {k : Int} {o : Obj} (hL : L.length = n) (hown : wr.ownsRow w0.heap.size tNum 3 v n (cellsK encN L)) (hlow : Below w0.heap.size w0 wr)
  (hks : ∀ j,j < n → ∃ k,NumK wr (aggN (L.getD j (0,none,0,0,0))) 17 k ∧ k * (BB ^ 200 : Nat) = kx j * kx j + ky j * ky j) (hb : Below wr.heap.size wr w9) (hk : NumK w9 (aggN x) 17 k) (hq : k * (BB ^ 200 : Nat) = kx n * kx n + ky n * ky n)
  (hg : (w9.alloc o).grownBy w2 v.ownBlock) (ho : w2.ownsRow w0.heap.size tNum 3 (.slice (some ⟨g,0,none⟩) (n + 1) c) (n + 1) (cellsK encN L ++ encN x)) : ZR w0 w2 (.slice (some ⟨g,0,none⟩) (n + 1) c) (n + 1) kx ky := by
 have hal : Below w9.heap.size w9 (w9.alloc o) := (Below.refl _ _).alloc (Nat.le_refl _) _
 have hba : Below wr.heap.size wr (w9.alloc o) := hb.trans (hal.mono hb.size)
 have hty : ∀ q,v.ownBlock = some q → ∃ cur fz,(w9.alloc o).heap[q]? = some (.cells cur tNum fz) := fun q e => by
  obtain ⟨cur,fz,h1⟩ := own_typed hown q e
  exact ⟨cur,fz,(hba.block q (hown.lt q e).2).trans h1⟩
 refine ⟨L ++ [x],by simp [hL],by rw [cellsK_append,cellsK_one]; exact ho,?_,fun j hj => ?_⟩
 ·have h1 : Below w0.heap.size w0 (w9.alloc o) := hlow.trans (hba.mono hlow.size)
  exact h1.grown hg h1.size (fun q e => (hown.lt q e).1)
 ·rcases Nat.lt_or_ge j n with h | h
  ·obtain ⟨k', k1,k2⟩ := hks j h
   refine ⟨k', ?_,k2⟩
   have e : (L ++ [x]).getD j (0,none,0,0,0) = L.getD j (0,none,0,0,0) := by
    rw [List.getD_eq_getElem?_getD,List.getElem?_append_left (by omega),← List.getD_eq_getElem?_getD]
   rw [e]
   exact (k1.below hba).grown hg hty
  ·have e1 : j = n := by omega
   subst e1
   have e : (L ++ [x]).getD j (0,none,0,0,0) = x := by
    rw [List.getD_eq_getElem?_getD,List.getElem?_append_right (by omega),hL,Nat.sub_self]; rfl
   rw [e]
   exact ⟨k,(hk.below hal).grown hg hty,hq⟩
theorem ZR.nc {w0 wr : World} {v : Value} {kx ky : Nat → Int} (h : ZR w0 wr v 3 kx ky) : ∃ (g c : Nat) (kz : Nat → Int),v = .slice (some ⟨g,0,none⟩) 3 c ∧ 3 ≤ c ∧ NC wr g 17 kz ∧ ∀ j,j < 3 → kz j * (BB ^ 200 : Nat) = kx j * kx j + ky j * ky j := by
 obtain ⟨L,hL,ho,_,hk⟩ := h
 rcases ho.2 with ⟨_,h0⟩ | ⟨g,c,cur,rfl,_,_,hc,_⟩
 ·omega
 ·refine ⟨g,c,fun j => if hj : j < 3 then (hk j hj).choose else 0,rfl,hc,fun j hj => ?_,fun j hj => ?_⟩
  ·have hlt : j < L.length := by omega
   have e : L.getD j (0,none,0,0,0) = L[j] := by rw [List.getD_eq_getElem?_getD,List.getElem?_eq_getElem hlt]; rfl
   have hlen : ∀ x : NumT,(encN x).length = 3 := fun _ => rfl
   refine ⟨L.getD j (0,none,0,0,0),⟨?_,?_,?_⟩,?_⟩
   ·rw [e,ho.cellAt (j * 3) (by omega)]
    have h0 := cellsK_at hlen L j hlt 0 (by omega)
    rw [Nat.add_zero] at h0
    exact h0
   ·rw [e,ho.cellAt (j * 3 + 1) (by omega)]
    exact cellsK_at hlen L j hlt 1 (by omega)
   ·rw [e,ho.cellAt (j * 3 + 2) (by omega)]
    exact cellsK_at hlen L j hlt 2 (by omega)
   ·dsimp only
    rw [dif_pos hj]
    exact (hk j hj).choose_spec.1
  ·dsimp only
   rw [dif_pos hj]
   exact (hk j hj).choose_spec.2
theorem ZR.low {w0 wr : World} {v : Value} {n : Nat} {kx ky : Nat → Int} (h : ZR w0 wr v n kx ky) : Below w0.heap.size w0 wr := by
 obtain ⟨L,_,_,h,_⟩ := h; exact h
theorem det_poly (X0 Y0 X1 Y1 X2 Y2 S : Int) : X0 * S * (Y1 * S * (X2 * S * (X2 * S) + Y2 * S * (Y2 * S)) - Y2 * S * (X1 * S * (X1 * S) + Y1 * S * (Y1 * S))) - Y0 * S * (X1 * S * (X2 * S * (X2 * S) + Y2 * S * (Y2 * S)) - X2 * S * (X1 * S * (X1 * S) + Y1 * S * (Y1 * S))) + (X0 * S * (X0 * S) + Y0 * S * (Y0 * S)) * (X1 * S * (Y2 * S) - X2 * S * (Y1 * S)) =
 ((X0 * X0 + Y0 * Y0) * (X1 * Y2 - X2 * Y1) + (X1 * X1 + Y1 * Y1) * (X2 * Y0 - X0 * Y2) + (X2 * X2 + Y2 * Y2) * (X0 * Y1 - X1 * Y0)) * S * S * S * S := by grind
theorem sum_val {P x0 x1 x2 y0 y1 y2 z0 z1 z2 c1 c2 c3 f1 f2 f3 : Int} (h0 : z0 * P = x0 * x0 + y0 * y0) (h1 : z1 * P = x1 * x1 + y1 * y1) (h2 : z2 * P = x2 * x2 + y2 * y2)
  (k1 : c1 * P = y1 * z2 - y2 * z1) (g1 : f1 * P = x0 * c1) (k2 : c2 * P = x1 * z2 - x2 * z1) (g2 : f2 * P = y0 * c2) (k3 : c3 * P = x1 * y2 - x2 * y1) (g3 : f3 * P = z0 * c3) :
  (f1 - f2 + f3) * P * P * P = x0 * (y1 * (x2 * x2 + y2 * y2) - y2 * (x1 * x1 + y1 * y1)) - y0 * (x1 * (x2 * x2 + y2 * y2) - x2 * (x1 * x1 + y1 * y1)) + (x0 * x0 + y0 * y0) * (x1 * y2 - x2 * y1) := by
 have e1 : f1 * P * P * P = x0 * (y1 * (x2 * x2 + y2 * y2) - y2 * (x1 * x1 + y1 * y1)) := by
  rw [g1,← h2,← h1,Int.mul_assoc x0 c1 P,k1,Int.mul_assoc x0,Int.sub_mul,Int.mul_assoc y1,Int.mul_assoc y2]
 have e2 : f2 * P * P * P = y0 * (x1 * (x2 * x2 + y2 * y2) - x2 * (x1 * x1 + y1 * y1)) := by
  rw [g2,← h2,← h1,Int.mul_assoc y0 c2 P,k2,Int.mul_assoc y0,Int.sub_mul,Int.mul_assoc x1,Int.mul_assoc x2]
 have e3 : f3 * P * P * P = (x0 * x0 + y0 * y0) * (x1 * y2 - x2 * y1) := by
  rw [g3,← h0,← k3]
  simp only [Int.mul_assoc,Int.mul_comm,Int.mul_left_comm]
 rw [← e1,← e2,← e3]
 simp only [Int.add_mul,Int.sub_mul]
def l2L (k : Nat) (m : Bool) : Array Bool := #[true,true,true,true,true,true,true,true,true,true,true,true,true,true,true,decide (1 ≤ k),decide (2 ≤ k),m,false]
def l2C (k : Nat) : Nat := if k = 0 then 15 else 16
theorem l2Ready {ops : Array Oper} (h : (List.range 3).all (fun k => [false,true].all fun m => (k == 2 && m) || (!(Region.ready .any ops (l2L k m)).isEmpty && (Region.ready .any ops (l2L k m)).all fun i => (i == l2C k && decide (k < 2)) || (i == 17 && !m))) = true) :
  ∀ k m,k ≤ 2 → (k = 2 ∧ m = true) ∨ (Region.ready .any ops (l2L k m) ≠ [] ∧ ∀ i ∈ Region.ready .any ops (l2L k m),(i = l2C k ∧ k < 2) ∨ (i = 17 ∧ m = false)) := by
 intro k m hk
 have h1 := List.all_eq_true.1 h k (List.mem_range.2 (by omega))
 have h2 := List.all_eq_true.1 h1 m (by cases m <;> simp)
 rw [Bool.or_eq_true,Bool.and_eq_true,Bool.and_eq_true] at h2
 rcases h2 with ⟨h3,h4⟩ | ⟨h3,h4⟩
 ·exact .inl ⟨by simpa using h3,h4⟩
 ·refine .inr ⟨by intro e; rw [e] at h3; simp at h3,fun i hi => ?_⟩
  have := List.all_eq_true.1 h4 i hi
  simpa using this
theorem l2L1 : ∀ k m,k < 2 → (l2L k m).setIfInBounds (l2C k) true = l2L (k + 1) m := by
 intro k m hk
 have : k = 0 ∨ k = 1 := by omega
 rcases this with rfl | rfl <;> rfl
theorem l2L2 : ∀ k,k ≤ 2 → (l2L k false).setIfInBounds 17 true = l2L k true := by
 intro k _; rfl
def fill2 (a : Act) (d1 d2 dp : Nat) (v1 v2 p : Value) : Act := ((a.put (some d1) v1).put (some d2) v2).put (some dp) p
structure GS (W0 : World) (kc ka : Int) (ec : Nat) (k : Nat) (m : Bool) (v1 v2 p : Value) (w : World) : Prop where
 bel : Below W0.heap.size W0 w
 n1 : 1 ≤ k → ∃ z,NumK w v1 ec z ∧ z * (BB ^ 200 : Nat) = kc
 n2 : 2 ≤ k → ∃ z q,NumK w v2 34 q ∧ q * (BB ^ 200 : Nat) = ka * z ∧ z * (BB ^ 200 : Nat) = kc
 bx : m = true → ∃ b,p = .pointer (some ⟨b,0,none⟩) ∧ W0.heap.size ≤ b ∧ Z3b w b
section
variable {W0 w w' : World} {kc ka : Int} {ec k : Nat} {m : Bool} {v1 v2 p : Value}
theorem GS.below (h : GS W0 kc ka ec k m v1 v2 p w) (hb : Below w.heap.size w w') : GS W0 kc ka ec k m v1 v2 p w' :=
 ⟨h.bel.trans (hb.mono h.bel.size),fun e => by obtain ⟨z,h1,h2⟩ := h.n1 e; exact ⟨z,h1.below hb,h2⟩,fun e => by obtain ⟨z,q,h1,h2⟩ := h.n2 e; exact ⟨z,q,h1.below hb,h2⟩,fun e => by obtain ⟨b,h1,h2,h3⟩ := h.bx e; exact ⟨b,h1,h2,Box3.below h3 hb⟩⟩
theorem GS.box (h : GS W0 kc ka ec k false v1 v2 p w) : GS W0 kc ka ec k true v1 v2 (.pointer (some ⟨w.heap.size,0,none⟩)) (w.alloc zNum) := by
 have g := h.below ((Below.refl _ w).alloc (Nat.le_refl _) zNum)
 exact ⟨g.bel,g.n1,g.n2,fun _ => ⟨_,rfl,h.bel.size,Box3.new _ _ _ _ _⟩⟩
theorem GS.c1 (h : GS W0 kc ka ec 0 m v1 v2 p w) {z : Value} {q : Int} (hb : Below w.heap.size w w') (hz : NumK w' z ec q) (hq : q * (BB ^ 200 : Nat) = kc) : GS W0 kc ka ec 1 m z v2 p w' := by
 have g := h.below hb
 exact ⟨g.bel,fun _ => ⟨q,hz,hq⟩,fun e => absurd e (by omega),g.bx⟩
theorem GS.c2 (h : GS W0 kc ka ec 1 m v1 v2 p w) {z : Value} {q t : Int} (hb : Below w.heap.size w w') (hz : NumK w' z 34 q) (hq : q * (BB ^ 200 : Nat) = ka * t) (ht : t * (BB ^ 200 : Nat) = kc) : GS W0 kc ka ec 2 m v1 z p w' := by
 have g := h.below hb
 exact ⟨g.bel,fun _ => g.n1 (by omega),fun _ => ⟨t,q,hz,hq,ht⟩,g.bx⟩
end
theorem lit2 {P : Program} {ops : Array Oper} {Q : Exit → Act → World → Prop} {S : World → Prop} {a0 : Act} {d1 d2 dp : Nat} {w : World} (st : Nat → Bool → Value → Value → Value → World → Prop)
  (hr : (List.range 3).all (fun k => [false,true].all fun m => (k == 2 && m) || (!(Region.ready .any ops (l2L k m)).isEmpty && (Region.ready .any ops (l2L k m)).all fun i => (i == l2C k && decide (k < 2)) || (i == 17 && !m))) = true)
  (h0 : ∀ m v1 v2 p w,st 0 m v1 v2 p w → wpOp P ops Q 15 (fun a' w' => S w' ∧ ∃ z,a' = fill2 a0 d1 d2 dp z v2 p ∧ st 1 m z v2 p w') (fill2 a0 d1 d2 dp v1 v2 p) w)
  (h1 : ∀ m v1 v2 p w,st 1 m v1 v2 p w → wpOp P ops Q 16 (fun a' w' => S w' ∧ ∃ z,a' = fill2 a0 d1 d2 dp v1 z p ∧ st 2 m v1 z p w') (fill2 a0 d1 d2 dp v1 v2 p) w)
  (hj : ∀ k v1 v2 p w,st k false v1 v2 p w → wpOp P ops Q 17 (fun a' w' => S w' ∧ ∃ z,a' = fill2 a0 d1 d2 dp v1 v2 z ∧ st k true v1 v2 z w') (fill2 a0 d1 d2 dp v1 v2 p) w)
  (hfin : ∀ v1 v2 p w,S w → st 2 true v1 v2 p w → wpAnyH P .any ops Q S 1 (l2L 2 true) (fill2 a0 d1 d2 dp v1 v2 p) w)
  (ha : fill2 a0 d1 d2 dp undef undef undef = a0) (hS : S w) (hst : st 0 false undef undef undef w) : wpAnyH P .any ops Q S 4 (l2L 0 false) a0 w := by
 refine beside (N := 2) (f0 := 1) (c := l2C) (j := 17) (L := l2L) (fun k m a w => ∃ v1 v2 p,a = fill2 a0 d1 d2 dp v1 v2 p ∧ st k m v1 v2 p w) (l2Ready hr) l2L1 l2L2 ?hc ?hj ?hfin 3 0 false a0 w (by omega) rfl hS ⟨undef,undef,undef,ha.symm,hst⟩
 case hc =>
  rintro k m a w hk ⟨v1,v2,p,rfl,h⟩
  have : k = 0 ∨ k = 1 := by omega
  rcases this with rfl | rfl
  ·exact wpOp_mono (fun a' w' ⟨s,z,e,f⟩ => ⟨s,z,v2,p,e,f⟩) (h0 m v1 v2 p w h)
  ·exact wpOp_mono (fun a' w' ⟨s,z,e,f⟩ => ⟨s,v1,z,p,e,f⟩) (h1 m v1 v2 p w h)
 case hj =>
  rintro k a w hk ⟨v1,v2,p,rfl,h⟩
  exact wpOp_mono (fun a' w' ⟨s,z,e,f⟩ => ⟨s,v1,v2,z,e,f⟩) (hj k v1 v2 p w h)
 case hfin =>
  rintro a w hS ⟨v1,v2,p,rfl,h⟩
  exact hfin v1 v2 p w hS h
theorem sum05 {a b c d : Pt} {w : World} (ha : pt64 a ∧ ptOK a = true) (hb : pt64 b ∧ ptOK b = true) (hc : pt64 c ∧ ptOK c = true) (hd : pt64 d ∧ ptOK d = true) :
  Calls Tryz.prog 122 #[V a,V b,V c,V d] w fun r w' => ∃ (ee : Int) (ad : Option Addr) (l cp : Nat),r = .returned (.agg #[.int .i64 (sgnI (det4 a b c d)),.slice ad l cp,.int .i64 ee]) ∧ Hid (Below w.heap.size w w') := by
 have co : ∀ {p : Pt},pt64 p ∧ ptOK p = true → (p.1 < 2 ^ 64 ∧ coordB p.1 = true) ∧ (p.2 < 2 ^ 64 ∧ coordB p.2 = true) := by
  rintro p ⟨h1,h2⟩
  unfold ptOK at h2
  rw [Bool.and_eq_true] at h2
  exact ⟨⟨h1.1,h2.1⟩,⟨h1.2,h2.2⟩⟩
 obtain ⟨ax,ay⟩ := a
 obtain ⟨bx,bY⟩ := b
 obtain ⟨cx,cy⟩ := c
 obtain ⟨dx,dy⟩ := d
 have ca := co ha
 have cb := co hb
 have cc := co hc
 have cd := co hd
 dsimp only at ca cb cc cd
 have less : ∀ {x y : Nat} {k : Int},(x < 2 ^ 64 ∧ coordB x = true) → (y < 2 ^ 64 ∧ coordB y = true) → (fval x - fval y) * 2 ^ 3726 = k → Hid (∀ W,Calls Tryz.prog 124 #[.float .f64 x,.float .f64 y] W (NumR 8 k W)) := fun hx hy hk W => by rw [← hk]; exact less05 hx hy
 obtain ⟨x0,hx0⟩ : ∃ k,(fval ax - fval dx) * 2 ^ 3726 = k := ⟨_,rfl⟩
 obtain ⟨x1,hx1⟩ : ∃ k,(fval bx - fval dx) * 2 ^ 3726 = k := ⟨_,rfl⟩
 obtain ⟨x2,hx2⟩ : ∃ k,(fval cx - fval dx) * 2 ^ 3726 = k := ⟨_,rfl⟩
 obtain ⟨y0,hy0⟩ : ∃ k,(fval ay - fval dy) * 2 ^ 3726 = k := ⟨_,rfl⟩
 obtain ⟨y1,hy1⟩ : ∃ k,(fval bY - fval dy) * 2 ^ 3726 = k := ⟨_,rfl⟩
 obtain ⟨y2,hy2⟩ : ∃ k,(fval cy - fval dy) * 2 ^ 3726 = k := ⟨_,rfl⟩
 have LX0 := less ca.1 cd.1 hx0
 have LX1 := less cb.1 cd.1 hx1
 have LX2 := less cc.1 cd.1 hx2
 have LY0 := less ca.2 cd.2 hy0
 have LY1 := less cb.2 cd.2 hy1
 have LY2 := less cc.2 cd.2 hy2
 have HV : Hid (∀ z0 z1 z2 c1 c2 c3 f1 f2 f3 : Int,z0 * (BB ^ 200 : Nat) = x0 * x0 + y0 * y0 → z1 * (BB ^ 200 : Nat) = x1 * x1 + y1 * y1 → z2 * (BB ^ 200 : Nat) = x2 * x2 + y2 * y2 →
   c1 * (BB ^ 200 : Nat) = y1 * z2 - y2 * z1 → f1 * (BB ^ 200 : Nat) = x0 * c1 → c2 * (BB ^ 200 : Nat) = x1 * z2 - x2 * z1 → f2 * (BB ^ 200 : Nat) = y0 * c2 → c3 * (BB ^ 200 : Nat) = x1 * y2 - x2 * y1 → f3 * (BB ^ 200 : Nat) = z0 * c3 → sgnI (f1 - f2 + f3) = sgnI (det4 (ax,ay) (bx,bY) (cx,cy) (dx,dy))) := by
  intro z0 z1 z2 c1 c2 c3 f1 f2 f3 q0 q1 q2 q3 q4 q5 q6 q7 q8
  have h := sum_val q0 q1 q2 q3 q4 q5 q6 q7 q8
  rw [← hx0,← hx1,← hx2,← hy0,← hy1,← hy2,det_poly,bb_cast 200] at h
  rw [← sgnI_mul (z := f1 - f2 + f3) (k := 24 * 200),← sgnI_mul (k := 24 * 200),← sgnI_mul (k := 24 * 200),h,sgnI_mul,sgnI_mul,sgnI_mul,sgnI_mul]
  rfl
 clear ha hb hc hd ca cb cc cd co less hx0 hx1 hx2 hy0 hy1 hy2
 generalize sgnI (det4 (ax,ay) (bx,bY) (cx,cy) (dx,dy)) = sg at *
 unfold V
 dsimp only
 go_enter Tryz.func122,Tryz.ntmps122
 go_upto_region 1 with fail
 obtain ⟨WX,hWX⟩ : ∃ WX : World,WX = ((((w.alloc (.cells #[.float .f64 ax,.float .f64 ay] 68)).alloc (.cells #[.float .f64 bx,.float .f64 bY] 68)).alloc (.cells #[.float .f64 cx,.float .f64 cy] 68)).alloc (.cells #[.float .f64 dx,.float .f64 dy] 68)).alloc zNum := ⟨_,rfl⟩
 have hW0 := hWX
 unfold zNum at hW0
 rw [← hW0]
 have HBX : Hid (Below w.heap.size w WX) := by rw [hWX]; exact ((((Below.refl _ w).alloc (Nat.le_refl _) _).alloc (by simp) _).alloc (by simp <;> omega) _ |>.alloc (by simp <;> omega) _).alloc (by simp <;> omega) _
 have HPX : Hid (P8 WX w.heap.size ax ay bx bY cx cy dx dy) := by rw [hWX]; exact (P8.made w ax ay bx bY cx cy dx dy _).below ((Below.refl _ _).alloc (Nat.le_refl _) _)
 have HRX : Hid (Z3b WX (w.heap.size + 1 + 1 + 1 + 1)) := by
  rw [hWX]
  have := Box3.new ((((w.alloc (.cells #[.float .f64 ax,.float .f64 ay] 68)).alloc (.cells #[.float .f64 bx,.float .f64 bY] 68)).alloc (.cells #[.float .f64 cx,.float .f64 cy] 68)).alloc (.cells #[.float .f64 dx,.float .f64 dy] 68)) (.int .i64 0) (.slice none 0 0) (.int .i64 0) tNum
  rwa [show ((((w.alloc (.cells #[.float .f64 ax,.float .f64 ay] 68)).alloc (.cells #[.float .f64 bx,.float .f64 bY] 68)).alloc (.cells #[.float .f64 cx,.float .f64 cy] 68)).alloc (.cells #[.float .f64 dx,.float .f64 dy] 68)).heap.size = w.heap.size + 1 + 1 + 1 + 1 from by simp] at this
 clear hW0 hWX
 have C0 : Hid (Below WX.heap.size WX WX.drew) := (Below.refl _ _).drew
 have HP0 := Lib.hid (HPX.out.below C0.out)
 have n0 := HP0.out
 go_region_held3 (fun W => W.cell? ⟨w.heap.size,0,none⟩ = some (.float .f64 ax) ∧ W.cell? ⟨w.heap.size,1,none⟩ = some (.float .f64 ay) ∧ W.cell? ⟨w.heap.size + 1,0,none⟩ = some (.float .f64 bx) ∧ W.cell? ⟨w.heap.size + 1,1,none⟩ = some (.float .f64 bY) ∧ W.cell? ⟨w.heap.size + 1 + 1,0,none⟩ = some (.float .f64 cx) ∧ W.cell? ⟨w.heap.size + 1 + 1,1,none⟩ = some (.float .f64 cy) ∧ W.cell? ⟨w.heap.size + 1 + 1 + 1,0,none⟩ = some (.float .f64 dx) ∧ W.cell? ⟨w.heap.size + 1 + 1 + 1,1,none⟩ = some (.float .f64 dy)) (first | exact n0 | exact n1 | exact n2 | exact n3 | exact n4 _ | assumption)
  (first
   |(go_at_call 124; (with_reducible refine (LX0.out _).mono ?_); rintro r w1 ⟨e1,a1,l1,c1,rfl,HZ1,HB1⟩; have HP1 := Lib.hid (HP0.out.below HB1.out); have C1 := Lib.hid (bseq C0.out HB1.out); have n1 := HP1.out)
   |(go_at_call 124; (with_reducible refine (LX1.out _).mono ?_); rintro r w2 ⟨e2,a2,l2,c2,rfl,HZ2,HB2⟩; have HP2 := Lib.hid (HP1.out.below HB2.out); have C2 := Lib.hid (bseq C1.out HB2.out); have n2 := HP2.out)
   |(go_at_call 124; (with_reducible refine (LX2.out _).mono ?_); rintro r w3 ⟨e3,a3,l3,c3,rfl,HZ3,HB3⟩; have HP3 := Lib.hid (HP2.out.below HB3.out); have C3 := Lib.hid (bseq C2.out HB3.out); have n3 := HP3.out; have n4 := fun o => HP3.out.below ((Below.refl _ w3).alloc (Nat.le_refl _) o)))
 have HNX0 := Lib.hid (NC.lit (W := w3) (T := tNum) (sgnI x0,a1,l1,c1,e1) (sgnI x1,a2,l2,c2,e2) (sgnI x2,a3,l3,c3,e3) ((HZ1.out.below HB2.out).below HB3.out) (HZ2.out.below HB3.out) HZ3.out)
 dsimp only at HNX0
 clear n0 n1 n2 n3 LX0 LX1 LX2
 (rename (World.cell? _ _ = _ ∧ _) => hh; clear hh)
 obtain ⟨WA,hWA⟩ : ∃ WA : World,WA = w3.alloc (.cells #[.int .i64 (sgnI x0),.slice a1 l1 c1,.int .i64 e1,.int .i64 (sgnI x1),.slice a2 l2 c2,.int .i64 e2,.int .i64 (sgnI x2),.slice a3 l3 c3,.int .i64 e3] tNum) := ⟨_,rfl⟩
 have HPA := Lib.hid (n4 (.cells #[.int .i64 (sgnI x0),.slice a1 l1 c1,.int .i64 e1,.int .i64 (sgnI x1),.slice a2 l2 c2,.int .i64 e2,.int .i64 (sgnI x2),.slice a3 l3 c3,.int .i64 e3] tNum))
 have CA : Hid (Below WX.heap.size WX WA) := by rw [hWA]; exact C3.out.alloc C3.out.size _
 have hWA' := hWA
 rw [← hWA] at HNX0 HPA
 obtain ⟨bx_,hbx⟩ : ∃ b,Hid (w3.heap.size = b) := ⟨_,rfl⟩
 rw [hbx.out] at HNX0
 clear n4 HZ1 HZ2 HZ3 HB1 HB2 HB3 HP0 HP1 HP2 HP3 C1 C2 C3 C0 hWA
 go_upto_region 2 with fail
 rw [← hWA', hbx.out]
 clear hWA' hbx
 rename (∀ (a : Act) (w : World),Code.wp _ _ _ a w → _) => hcA
 have HCA := Lib.hid (fun (_ : Unit) => hcA)
 clear hcA
 have D0 : Hid (Below WA.heap.size WA WA.drew) := (Below.refl _ _).drew
 have HP0 := Lib.hid (HPA.out.below D0.out)
 have n0 := HP0.out
 go_region_held3 (fun W => W.cell? ⟨w.heap.size,0,none⟩ = some (.float .f64 ax) ∧ W.cell? ⟨w.heap.size,1,none⟩ = some (.float .f64 ay) ∧ W.cell? ⟨w.heap.size + 1,0,none⟩ = some (.float .f64 bx) ∧ W.cell? ⟨w.heap.size + 1,1,none⟩ = some (.float .f64 bY) ∧ W.cell? ⟨w.heap.size + 1 + 1,0,none⟩ = some (.float .f64 cx) ∧ W.cell? ⟨w.heap.size + 1 + 1,1,none⟩ = some (.float .f64 cy) ∧ W.cell? ⟨w.heap.size + 1 + 1 + 1,0,none⟩ = some (.float .f64 dx) ∧ W.cell? ⟨w.heap.size + 1 + 1 + 1,1,none⟩ = some (.float .f64 dy)) (first | exact n0 | exact n1 | exact n2 | exact n3 | exact n4 _ | assumption)
  (first
   |(go_at_call 124; (with_reducible refine (LY0.out _).mono ?_); rintro r w4 ⟨e1,a1,l1,c1,rfl,HZ1,HB1⟩; have HP1 := Lib.hid (HP0.out.below HB1.out); have C1 := Lib.hid (bseq D0.out HB1.out); have n1 := HP1.out)
   |(go_at_call 124; (with_reducible refine (LY1.out _).mono ?_); rintro r w5 ⟨e2,a2,l2,c2,rfl,HZ2,HB2⟩; have HP2 := Lib.hid (HP1.out.below HB2.out); have C2 := Lib.hid (bseq C1.out HB2.out); have n2 := HP2.out)
   |(go_at_call 124; (with_reducible refine (LY2.out _).mono ?_); rintro r w6 ⟨e3,a3,l3,c3,rfl,HZ3,HB3⟩; have HP3 := Lib.hid (HP2.out.below HB3.out); have C3 := Lib.hid (bseq C2.out HB3.out); have n3 := HP3.out; have n4 := fun o => HP3.out.below ((Below.refl _ w6).alloc (Nat.le_refl _) o)))
 have HNY0 := Lib.hid (NC.lit (W := w6) (T := tNum) (sgnI y0,a1,l1,c1,e1) (sgnI y1,a2,l2,c2,e2) (sgnI y2,a3,l3,c3,e3) ((HZ1.out.below HB2.out).below HB3.out) (HZ2.out.below HB3.out) HZ3.out)
 dsimp only at HNY0
 clear n0 n1 n2 n3 LY0 LY1 LY2
 (rename (World.cell? _ _ = _ ∧ _) => hh; clear hh)
 obtain ⟨WB,hWB⟩ : ∃ WB : World,WB = w6.alloc (.cells #[.int .i64 (sgnI y0),.slice a1 l1 c1,.int .i64 e1,.int .i64 (sgnI y1),.slice a2 l2 c2,.int .i64 e2,.int .i64 (sgnI y2),.slice a3 l3 c3,.int .i64 e3] tNum) := ⟨_,rfl⟩
 have CB : Hid (Below WA.heap.size WA WB) := by rw [hWB]; exact C3.out.alloc C3.out.size _
 have hWB' := hWB
 rw [← hWB] at HNY0
 obtain ⟨by_,hby⟩ : ∃ b,Hid (w6.heap.size = b) := ⟨_,rfl⟩
 rw [hby.out] at HNY0
 have HNX := Lib.hid (HNX0.out.below CB.out)
 have CXB : Hid (Below WX.heap.size WX WB) := bseq CA.out CB.out
 have HBW : Hid (Below w.heap.size w WB) := bseq HBX.out CXB.out
 have HRB : Hid (Z3b WB (w.heap.size + 1 + 1 + 1 + 1)) := Box3.below HRX.out CXB.out
 clear n4 HZ1 HZ2 HZ3 HB1 HB2 HB3 HP0 HP1 HP2 HP3 C1 C2 C3 D0 hWB HPA HNX0 CB CA CXB HRX HBX HPX
 have hcA := HCA.out ()
 clear HCA
 go_wp2
 rw [← hWB', hby.out]
 clear hWB' hby
 obtain ⟨i0,hi,hz0,hz1,hz2⟩ := info_parts infoNum
 go_loopw [11,12] (fun s11 s12 wr => ∃ n : Nat,n ≤ 3 ∧ s12 = .int .i64 n ∧ Hid (ZR WB wr s11 n (pk x0 x1 x2) (pk y0 y1 y2))) (fun _ s12 _ => 3 - (intOf s12).toNat)
 case atStart => exact ⟨0,by omega,rfl,ZR.nil (Below.refl _ _)⟩
 case round =>
  obtain ⟨n,hn,rfl,HZ⟩ := hrel
  obtain ⟨gl,cl,hv⟩ := HZ.out.form
  subst hv
  by_cases hlt : n < 3
  ·have hz : (n : Int) < 3 := by omega
   have hi0 : (0 : Int) ≤ (n : Int) := by omega
   have hw1 : wrap64 ((n : Int) + 1) = (n : Int) + 1 := by unfold wrap64; omega
   obtain ⟨L,hL,hown,hlow,hk⟩ := HZ.out
   have HOW := Lib.hid hown
   have HLW := Lib.hid hlow
   have HKS := Lib.hid hk
   have HLN := Lib.hid hL
   clear hL hown hlow hk HZ
   obtain ⟨nx,hx,kx⟩ := HNX.out n hlt
   obtain ⟨ny,hy,ky⟩ := HNY0.out n hlt
   have HM1 := Lib.hid (fun W (hb : Below WB.heap.size WB W) => mulX (kx.below hb) (kx.below hb) (by omega))
   have HM2 := Lib.hid (fun W (hb : Below WB.heap.size WB W) => mulX (ky.below hb) (ky.below hb) (by omega))
   have HAD : Hid (∀ W u v a b,NumK W u 16 a → NumK W v 16 b → Calls Tryz.prog 160 #[u,v] W (NumR 17 (a + b) W)) := fun W u v a b h1 h2 => addR h1 h2 (by omega)
   have HXC := Lib.hid (fun W (hb : Below WB.heap.size WB W) => hx.below hb)
   have HYC := Lib.hid (fun W (hb : Below WB.heap.size WB W) => hy.below hb)
   clear kx ky hx hy
   unfold aggN at HM1 HM2
   unfold N3 at HXC HYC
   obtain ⟨nx0,nx1,nx2,nx3,nx4⟩ := nx
   obtain ⟨ny0,ny1,ny2,ny3,ny4⟩ := ny
   dsimp only at HM1 HM2 HXC HYC
   obtain ⟨px,hpx⟩ : ∃ z,Hid (pk x0 x1 x2 n = z) := ⟨_,rfl⟩
   obtain ⟨py,hpy⟩ : ∃ z,Hid (pk y0 y1 y2 n = z) := ⟨_,rfl⟩
   rw [hpx.out] at HM1
   rw [hpy.out] at HM2
   have KS : Hid (∀ W,Below WB.heap.size WB W → (W.cell? ⟨bx_,n * 3,none⟩ = some (.int .i64 nx0) ∧ W.cell? ⟨bx_,n * 3 + 1,none⟩ = some (.slice nx1 nx2 nx3) ∧ W.cell? ⟨bx_,n * 3 + 2,none⟩ = some (.int .i64 nx4)) ∧ (W.cell? ⟨by_,n * 3,none⟩ = some (.int .i64 ny0) ∧ W.cell? ⟨by_,n * 3 + 1,none⟩ = some (.slice ny1 ny2 ny3) ∧ W.cell? ⟨by_,n * 3 + 2,none⟩ = some (.int .i64 ny4))) := fun W hb => ⟨HXC.out W hb,HYC.out W hb⟩
   have D0 : Hid (Below wr.heap.size wr wr.drew) := (Below.refl _ _).drew
   have n0 := KS.out _ (bseq HLW.out D0.out)
   have HX1 : Hid (n + 1 ≤ maxLen) := by unfold Hid maxLen; omega
   have HX2 : Hid ((n + 1) * 40 ≤ 140737488355328) := by unfold Hid; omega
   clear HXC HYC HNX HNY0 HRB HBW
   go_upto_region 7 with fail
   rename (∀ (a : Act) (w : World),Code.wp _ _ _ a w → _) => hcA
   have HCA := Lib.hid (fun (_ : Unit) => hcA)
   clear hcA
   rename (∀ (a : Act) (w : World),Code.wp _ _ _ a w → _) => hcB
   have HCB := Lib.hid (fun (_ : Unit) => hcB)
   clear hcB
   repeat (rename (∀ (a : Act) (w : World),Code.wp _ _ _ a w → _) => ha; clear ha)
   go_region_held3 (fun W => (W.cell? ⟨bx_,n * 3,none⟩ = some (.int .i64 nx0) ∧ W.cell? ⟨bx_,n * 3 + 1,none⟩ = some (.slice nx1 nx2 nx3) ∧ W.cell? ⟨bx_,n * 3 + 2,none⟩ = some (.int .i64 nx4)) ∧ (W.cell? ⟨by_,n * 3,none⟩ = some (.int .i64 ny0) ∧ W.cell? ⟨by_,n * 3 + 1,none⟩ = some (.slice ny1 ny2 ny3) ∧ W.cell? ⟨by_,n * 3 + 2,none⟩ = some (.int .i64 ny4)))
    (first | exact n0 | exact n1 | exact n2 | exact n3 | exact n4 _ | exact n5 | assumption)
    (first
     |(go_at_call 123; (with_reducible refine (HM1.out _ (bseq HLW.out D0.out)).mono ?_); rintro r w7 ⟨k1,e1,a1,l1,c1,rfl,HZ1,HQ1,hb1⟩; have D1 := Lib.hid (bseq D0.out hb1.out); have n1 := KS.out _ (bseq HLW.out D1.out))
     |(go_at_call 123; (with_reducible refine (HM2.out _ (bseq HLW.out D1.out)).mono ?_); rintro r w8 ⟨k2,e2,a2,l2,c2,rfl,HZ2,HQ2,hb2⟩; have D2 := Lib.hid (bseq D1.out hb2.out); have HZ1b := Lib.hid (HZ1.out.below hb2.out); have n2 := KS.out _ (bseq HLW.out D2.out))
     |(go_at_call 160; (with_reducible refine (HAD.out _ _ _ _ _ HZ1b.out HZ2.out).mono ?_); rintro r w9 ⟨e3,a3,l3,c3,rfl,HZ3,hb3⟩; have D3 := Lib.hid (bseq D2.out hb3.out); have n3 := KS.out _ (bseq HLW.out D3.out); have n4 := fun o => KS.out _ ((bseq HLW.out D3.out).alloc (bseq HLW.out D3.out).size o))
     |(refine step_append_lies _ rfl _ _ 187 rfl WB.heap.size tNum i0 (.agg #[.int .i64 0,.slice none 0 0,.int .i64 0]) 3 40 Tryz.underlying187 hi hz0 hz1 hz2 rfl (by decide) _ n (cellsK encN L) rfl (World.ownsRow.alloc (w := w9) (ownsRow_same HOW.out (fun g hg => D3.out.block g (HOW.out.lt g hg).2)) _) ⟨w9.heap.size,0,none⟩ 1 1 (encN (sgnI (k1 + k2),a3,l3,c3,e3)) rfl rfl (cells_new w9 (encN (sgnI (k1 + k2),a3,l3,c3,e3)) tNum) (encN_one _) (by decide) HX1.out HX2.out (by have := (bseq HLW.out D3.out).size; simp; omega) _ rfl ?_
       intro g9 cap9 W9 hown9 hg9 hloc9 hlt9
       have HPU := Lib.hid (zr_push (x := (sgnI (k1 + k2),a3,l3,c3,e3)) (k := k1 + k2) HLN.out HOW.out HLW.out HKS.out D3.out HZ3.out (by rw [Int.add_mul,HQ1.out,HQ2.out,hpx.out,hpy.out]) hg9 hown9)
       have n5 := KS.out _ HPU.out.low))
   all_goals
    have hcA := HCA.out ()
    have hcB := HCB.out ()
    clear n0 n1 n2 n3 n4 n5 hown9 hg9
    go_wp2
    go_roundw
    case rel => exact ⟨n + 1,by omega,by (try rw [hw1]); rfl,HPU.out⟩
    case measure => (try rw [hw1]); simp only [intOf]; omega
  ·have e : n = 3 := by omega
   subst e
   rw [show ((3 : Nat) : Int) = 3 from rfl]
   clear hlt hn
   obtain ⟨gz,cz,kz,hv,hcz,hnz,hkz⟩ := HZ.out.nc
   injection hv with hv1 _ hv2
   subst hv1
   subst hv2
   have HBwr : Hid (Below wr.heap.size wr wr) := Below.refl _ _
   have HB0 := Lib.hid HZ.out.low
   obtain ⟨⟨x0s,x0a,x0l,x0c,x0e⟩,hx0,kx0⟩ := (HNX.out.below HB0.out) 0 (by omega)
   obtain ⟨⟨x1s,x1a,x1l,x1c,x1e⟩,hx1,kx1⟩ := (HNX.out.below HB0.out) 1 (by omega)
   obtain ⟨⟨x2s,x2a,x2l,x2c,x2e⟩,hx2,kx2⟩ := (HNX.out.below HB0.out) 2 (by omega)
   obtain ⟨⟨y0s,y0a,y0l,y0c,y0e⟩,hy0,ky0⟩ := (HNY0.out.below HB0.out) 0 (by omega)
   obtain ⟨⟨y1s,y1a,y1l,y1c,y1e⟩,hy1,ky1⟩ := (HNY0.out.below HB0.out) 1 (by omega)
   obtain ⟨⟨y2s,y2a,y2l,y2c,y2e⟩,hy2,ky2⟩ := (HNY0.out.below HB0.out) 2 (by omega)
   obtain ⟨⟨z0s,z0a,z0l,z0c,z0e⟩,hz0,kz0⟩ := hnz 0 (by omega)
   obtain ⟨⟨z1s,z1a,z1l,z1c,z1e⟩,hz1,kz1⟩ := hnz 1 (by omega)
   obtain ⟨⟨z2s,z2a,z2l,z2c,z2e⟩,hz2,kz2⟩ := hnz 2 (by omega)
   have Nx0 : Hid (∀ W,Below wr.heap.size wr W → NumK W (.agg #[.int .i64 x0s,.slice x0a x0l x0c,.int .i64 x0e]) 8 (x0)) := fun W hb => kx0.below hb
   have Kx0 : Hid (∀ W,Below wr.heap.size wr W → (W.cell? ⟨bx_,0,none⟩ = some (.int .i64 x0s) ∧ W.cell? ⟨bx_,1,none⟩ = some (.slice x0a x0l x0c) ∧ W.cell? ⟨bx_,2,none⟩ = some (.int .i64 x0e))) := fun W hb => hx0.below hb
   have Nx1 : Hid (∀ W,Below wr.heap.size wr W → NumK W (.agg #[.int .i64 x1s,.slice x1a x1l x1c,.int .i64 x1e]) 8 (x1)) := fun W hb => kx1.below hb
   have Kx1 : Hid (∀ W,Below wr.heap.size wr W → (W.cell? ⟨bx_,3,none⟩ = some (.int .i64 x1s) ∧ W.cell? ⟨bx_,4,none⟩ = some (.slice x1a x1l x1c) ∧ W.cell? ⟨bx_,5,none⟩ = some (.int .i64 x1e))) := fun W hb => hx1.below hb
   have Nx2 : Hid (∀ W,Below wr.heap.size wr W → NumK W (.agg #[.int .i64 x2s,.slice x2a x2l x2c,.int .i64 x2e]) 8 (x2)) := fun W hb => kx2.below hb
   have Kx2 : Hid (∀ W,Below wr.heap.size wr W → (W.cell? ⟨bx_,6,none⟩ = some (.int .i64 x2s) ∧ W.cell? ⟨bx_,7,none⟩ = some (.slice x2a x2l x2c) ∧ W.cell? ⟨bx_,8,none⟩ = some (.int .i64 x2e))) := fun W hb => hx2.below hb
   have Ny0 : Hid (∀ W,Below wr.heap.size wr W → NumK W (.agg #[.int .i64 y0s,.slice y0a y0l y0c,.int .i64 y0e]) 8 (y0)) := fun W hb => ky0.below hb
   have Ky0 : Hid (∀ W,Below wr.heap.size wr W → (W.cell? ⟨by_,0,none⟩ = some (.int .i64 y0s) ∧ W.cell? ⟨by_,1,none⟩ = some (.slice y0a y0l y0c) ∧ W.cell? ⟨by_,2,none⟩ = some (.int .i64 y0e))) := fun W hb => hy0.below hb
   have Ny1 : Hid (∀ W,Below wr.heap.size wr W → NumK W (.agg #[.int .i64 y1s,.slice y1a y1l y1c,.int .i64 y1e]) 8 (y1)) := fun W hb => ky1.below hb
   have Ky1 : Hid (∀ W,Below wr.heap.size wr W → (W.cell? ⟨by_,3,none⟩ = some (.int .i64 y1s) ∧ W.cell? ⟨by_,4,none⟩ = some (.slice y1a y1l y1c) ∧ W.cell? ⟨by_,5,none⟩ = some (.int .i64 y1e))) := fun W hb => hy1.below hb
   have Ny2 : Hid (∀ W,Below wr.heap.size wr W → NumK W (.agg #[.int .i64 y2s,.slice y2a y2l y2c,.int .i64 y2e]) 8 (y2)) := fun W hb => ky2.below hb
   have Ky2 : Hid (∀ W,Below wr.heap.size wr W → (W.cell? ⟨by_,6,none⟩ = some (.int .i64 y2s) ∧ W.cell? ⟨by_,7,none⟩ = some (.slice y2a y2l y2c) ∧ W.cell? ⟨by_,8,none⟩ = some (.int .i64 y2e))) := fun W hb => hy2.below hb
   have Nz0 : Hid (∀ W,Below wr.heap.size wr W → NumK W (.agg #[.int .i64 z0s,.slice z0a z0l z0c,.int .i64 z0e]) 17 (kz 0)) := fun W hb => kz0.below hb
   have Kz0 : Hid (∀ W,Below wr.heap.size wr W → (W.cell? ⟨gz,0,none⟩ = some (.int .i64 z0s) ∧ W.cell? ⟨gz,1,none⟩ = some (.slice z0a z0l z0c) ∧ W.cell? ⟨gz,2,none⟩ = some (.int .i64 z0e))) := fun W hb => hz0.below hb
   have Nz1 : Hid (∀ W,Below wr.heap.size wr W → NumK W (.agg #[.int .i64 z1s,.slice z1a z1l z1c,.int .i64 z1e]) 17 (kz 1)) := fun W hb => kz1.below hb
   have Kz1 : Hid (∀ W,Below wr.heap.size wr W → (W.cell? ⟨gz,3,none⟩ = some (.int .i64 z1s) ∧ W.cell? ⟨gz,4,none⟩ = some (.slice z1a z1l z1c) ∧ W.cell? ⟨gz,5,none⟩ = some (.int .i64 z1e))) := fun W hb => hz1.below hb
   have Nz2 : Hid (∀ W,Below wr.heap.size wr W → NumK W (.agg #[.int .i64 z2s,.slice z2a z2l z2c,.int .i64 z2e]) 17 (kz 2)) := fun W hb => kz2.below hb
   have Kz2 : Hid (∀ W,Below wr.heap.size wr W → (W.cell? ⟨gz,6,none⟩ = some (.int .i64 z2s) ∧ W.cell? ⟨gz,7,none⟩ = some (.slice z2a z2l z2c) ∧ W.cell? ⟨gz,8,none⟩ = some (.int .i64 z2e))) := fun W hb => hz2.below hb
   obtain ⟨z0,hz0'⟩ : ∃ z,Hid (kz 0 = z) := ⟨_,rfl⟩
   obtain ⟨z1,hz1'⟩ : ∃ z,Hid (kz 1 = z) := ⟨_,rfl⟩
   obtain ⟨z2,hz2'⟩ : ∃ z,Hid (kz 2 = z) := ⟨_,rfl⟩
   have HZ0 : Hid (z0 * (BB ^ 200 : Nat) = x0 * x0 + y0 * y0) := by rw [← hz0'.out]; exact hkz 0 (by omega)
   have HZ1 : Hid (z1 * (BB ^ 200 : Nat) = x1 * x1 + y1 * y1) := by rw [← hz1'.out]; exact hkz 1 (by omega)
   have HZ2 : Hid (z2 * (BB ^ 200 : Nat) = x2 * x2 + y2 * y2) := by rw [← hz2'.out]; exact hkz 2 (by omega)
   rw [hz0'.out] at Nz0
   rw [hz1'.out] at Nz1
   rw [hz2'.out] at Nz2
   have HRW := Lib.hid (Box3.below HRB.out HB0.out)
   have HBW0 : Hid (Below w.heap.size w wr) := bseq HBW.out HB0.out
   clear hz0' hz1' hz2' hkz hnz HZ HNX HNY0 HRB HBW HB0 hcz hx0 kx0 hx1 kx1 hx2 kx2 hy0 ky0 hy1 ky1 hy2 ky2 hz0 kz0 hz1 kz1 hz2 kz2
   have HC8 : Hid (∀ W,Below wr.heap.size wr W → Calls Tryz.prog 161 #[.agg #[.int .i64 y1s,.slice y1a y1l y1c,.int .i64 y1e],.agg #[.int .i64 z1s,.slice z1a z1l z1c,.int .i64 z1e],.agg #[.int .i64 y2s,.slice y2a y2l y2c,.int .i64 y2e],.agg #[.int .i64 z2s,.slice z2a z2l z2c,.int .i64 z2e]] W (NumX 26 (y1 * z2 - y2 * z1) W)) := fun W hb => cross05 (Ny1.out W hb) (Nz1.out W hb) (Ny2.out W hb) (Nz2.out W hb) (by omega)
   have HM8 : Hid (∀ W v k,Below wr.heap.size wr W → NumK W v 26 k → Calls Tryz.prog 123 #[.agg #[.int .i64 x0s,.slice x0a x0l x0c,.int .i64 x0e],v] W (NumX 34 (x0 * k) W)) := fun W v k hb hv => mulX (Nx0.out W hb) hv (by omega)
   have HC9 : Hid (∀ W,Below wr.heap.size wr W → Calls Tryz.prog 161 #[.agg #[.int .i64 x1s,.slice x1a x1l x1c,.int .i64 x1e],.agg #[.int .i64 z1s,.slice z1a z1l z1c,.int .i64 z1e],.agg #[.int .i64 x2s,.slice x2a x2l x2c,.int .i64 x2e],.agg #[.int .i64 z2s,.slice z2a z2l z2c,.int .i64 z2e]] W (NumX 26 (x1 * z2 - x2 * z1) W)) := fun W hb => cross05 (Nx1.out W hb) (Nz1.out W hb) (Nx2.out W hb) (Nz2.out W hb) (by omega)
   have HM9 : Hid (∀ W v k,Below wr.heap.size wr W → NumK W v 26 k → Calls Tryz.prog 123 #[.agg #[.int .i64 y0s,.slice y0a y0l y0c,.int .i64 y0e],v] W (NumX 34 (y0 * k) W)) := fun W v k hb hv => mulX (Ny0.out W hb) hv (by omega)
   have HC10 : Hid (∀ W,Below wr.heap.size wr W → Calls Tryz.prog 161 #[.agg #[.int .i64 x1s,.slice x1a x1l x1c,.int .i64 x1e],.agg #[.int .i64 y1s,.slice y1a y1l y1c,.int .i64 y1e],.agg #[.int .i64 x2s,.slice x2a x2l x2c,.int .i64 x2e],.agg #[.int .i64 y2s,.slice y2a y2l y2c,.int .i64 y2e]] W (NumX 17 (x1 * y2 - x2 * y1) W)) := fun W hb => cross05 (Nx1.out W hb) (Ny1.out W hb) (Nx2.out W hb) (Ny2.out W hb) (by omega)
   have HM10 : Hid (∀ W v k,Below wr.heap.size wr W → NumK W v 17 k → Calls Tryz.prog 123 #[.agg #[.int .i64 z0s,.slice z0a z0l z0c,.int .i64 z0e],v] W (NumX 34 (z0 * k) W)) := fun W v k hb hv => mulX (Nz0.out W hb) hv (by omega)
   clear Nx0 Nx1 Nx2 Ny0 Ny1 Ny2 Nz0 Nz1 Nz2
   go_upto_region 8 with fail
   rename (∀ (a : Act) (w : World),Code.wp _ _ _ a w → _) => hcA
   have HCA8 := Lib.hid (fun (_ : Unit) => hcA)
   clear hcA
   have C8 : Hid (Below wr.heap.size wr wr.drew) := (Below.refl _ _).drew
   have KS8 : Hid (∀ W,Below wr.heap.size wr W → (W.cell? ⟨bx_,0,none⟩ = some (.int .i64 x0s) ∧ W.cell? ⟨bx_,1,none⟩ = some (.slice x0a x0l x0c) ∧ W.cell? ⟨bx_,2,none⟩ = some (.int .i64 x0e)) ∧ (W.cell? ⟨by_,3,none⟩ = some (.int .i64 y1s) ∧ W.cell? ⟨by_,4,none⟩ = some (.slice y1a y1l y1c) ∧ W.cell? ⟨by_,5,none⟩ = some (.int .i64 y1e)) ∧ (W.cell? ⟨gz,3,none⟩ = some (.int .i64 z1s) ∧ W.cell? ⟨gz,4,none⟩ = some (.slice z1a z1l z1c) ∧ W.cell? ⟨gz,5,none⟩ = some (.int .i64 z1e)) ∧ (W.cell? ⟨by_,6,none⟩ = some (.int .i64 y2s) ∧ W.cell? ⟨by_,7,none⟩ = some (.slice y2a y2l y2c) ∧ W.cell? ⟨by_,8,none⟩ = some (.int .i64 y2e)) ∧ (W.cell? ⟨gz,6,none⟩ = some (.int .i64 z2s) ∧ W.cell? ⟨gz,7,none⟩ = some (.slice z2a z2l z2c) ∧ W.cell? ⟨gz,8,none⟩ = some (.int .i64 z2e))) := fun W hb => ⟨Kx0.out W (bseq HBwr.out hb),Ky1.out W (bseq HBwr.out hb),Kz1.out W (bseq HBwr.out hb),Ky2.out W (bseq HBwr.out hb),Kz2.out W (bseq HBwr.out hb)⟩
   refine wp_region_held_drew (S := (fun W => (W.cell? ⟨bx_,0,none⟩ = some (.int .i64 x0s) ∧ W.cell? ⟨bx_,1,none⟩ = some (.slice x0a x0l x0c) ∧ W.cell? ⟨bx_,2,none⟩ = some (.int .i64 x0e)) ∧ (W.cell? ⟨by_,3,none⟩ = some (.int .i64 y1s) ∧ W.cell? ⟨by_,4,none⟩ = some (.slice y1a y1l y1c) ∧ W.cell? ⟨by_,5,none⟩ = some (.int .i64 y1e)) ∧ (W.cell? ⟨gz,3,none⟩ = some (.int .i64 z1s) ∧ W.cell? ⟨gz,4,none⟩ = some (.slice z1a z1l z1c) ∧ W.cell? ⟨gz,5,none⟩ = some (.int .i64 z1e)) ∧ (W.cell? ⟨by_,6,none⟩ = some (.int .i64 y2s) ∧ W.cell? ⟨by_,7,none⟩ = some (.slice y2a y2l y2c) ∧ W.cell? ⟨by_,8,none⟩ = some (.int .i64 y2e)) ∧ (W.cell? ⟨gz,6,none⟩ = some (.int .i64 z2s) ∧ W.cell? ⟨gz,7,none⟩ = some (.slice z2a z2l z2c) ∧ W.cell? ⟨gz,8,none⟩ = some (.int .i64 z2e)))) (by kernel_rfl) (KS8.out _ C8.out) (fun hHeld => ?_)
   refine wpAnyH_take (i := 0) (oi := ⟨some 74,_,_,_,_,none⟩) (v := ?_) rfl (by kernel_rfl) (by kernel_rfl) (by kernel_rfl) (fun _ _ _ h => h) (Or.inl ⟨by rfl,?_⟩) (by assumption) ?_
   rotate_left
   ·intro W hSw; (try dsimp only at hSw); go_simp; try with_reducible rfl
   simp only [Act.put,List.setIfInBounds_toArray,List.set_cons_zero,List.set_cons_succ]
   refine wpAnyH_take (i := 1) (oi := ⟨some 75,_,_,_,_,none⟩) (v := ?_) rfl (by kernel_rfl) (by kernel_rfl) (by kernel_rfl) (fun _ _ _ h => h) (Or.inl ⟨by rfl,?_⟩) (by assumption) ?_
   rotate_left
   ·intro W hSw; (try dsimp only at hSw); go_simp; try with_reducible rfl
   simp only [Act.put,List.setIfInBounds_toArray,List.set_cons_zero,List.set_cons_succ]
   refine wpAnyH_take (i := 2) (oi := ⟨some 76,_,_,_,_,none⟩) (v := ?_) rfl (by kernel_rfl) (by kernel_rfl) (by kernel_rfl) (fun _ _ _ h => h) (Or.inl ⟨by rfl,?_⟩) (by assumption) ?_
   rotate_left
   ·intro W hSw; (try dsimp only at hSw); go_simp; try with_reducible rfl
   simp only [Act.put,List.setIfInBounds_toArray,List.set_cons_zero,List.set_cons_succ]
   refine wpAnyH_take (i := 3) (oi := ⟨some 77,_,_,_,_,none⟩) (v := ?_) rfl (by kernel_rfl) (by kernel_rfl) (by kernel_rfl) (fun _ _ _ h => h) (Or.inl ⟨by rfl,?_⟩) (by assumption) ?_
   rotate_left
   ·intro W hSw; (try dsimp only at hSw); go_simp; try with_reducible rfl
   simp only [Act.put,List.setIfInBounds_toArray,List.set_cons_zero,List.set_cons_succ]
   refine wpAnyH_take (i := 4) (oi := ⟨some 78,_,_,_,_,none⟩) (v := ?_) rfl (by kernel_rfl) (by kernel_rfl) (by kernel_rfl) (fun _ _ _ h => h) (Or.inl ⟨by rfl,?_⟩) (by assumption) ?_
   rotate_left
   ·intro W hSw; (try dsimp only at hSw); go_simp; try with_reducible rfl
   simp only [Act.put,List.setIfInBounds_toArray,List.set_cons_zero,List.set_cons_succ]
   refine wpAnyH_take (i := 5) (oi := ⟨some 79,_,_,_,_,none⟩) (v := ?_) rfl (by kernel_rfl) (by kernel_rfl) (by kernel_rfl) (fun _ _ _ h => h) (Or.inl ⟨by rfl,?_⟩) (by assumption) ?_
   rotate_left
   ·intro W hSw; (try dsimp only at hSw); go_simp; try with_reducible rfl
   simp only [Act.put,List.setIfInBounds_toArray,List.set_cons_zero,List.set_cons_succ]
   refine wpAnyH_take (i := 6) (oi := ⟨some 80,_,_,_,_,none⟩) (v := ?_) rfl (by kernel_rfl) (by kernel_rfl) (by kernel_rfl) (fun _ _ _ h => h) (Or.inl ⟨by rfl,?_⟩) (by assumption) ?_
   rotate_left
   ·intro W hSw; (try dsimp only at hSw); go_simp; try with_reducible rfl
   simp only [Act.put,List.setIfInBounds_toArray,List.set_cons_zero,List.set_cons_succ]
   refine wpAnyH_take (i := 7) (oi := ⟨some 81,_,_,_,_,none⟩) (v := ?_) rfl (by kernel_rfl) (by kernel_rfl) (by kernel_rfl) (fun _ _ _ h => h) (Or.inl ⟨by rfl,?_⟩) (by assumption) ?_
   rotate_left
   ·intro W hSw; (try dsimp only at hSw); go_simp; try with_reducible rfl
   simp only [Act.put,List.setIfInBounds_toArray,List.set_cons_zero,List.set_cons_succ]
   refine wpAnyH_take (i := 8) (oi := ⟨some 82,_,_,_,_,none⟩) (v := ?_) rfl (by kernel_rfl) (by kernel_rfl) (by kernel_rfl) (fun _ _ _ h => h) (Or.inl ⟨by rfl,?_⟩) (by assumption) ?_
   rotate_left
   ·intro W hSw; (try dsimp only at hSw); go_simp; try with_reducible rfl
   simp only [Act.put,List.setIfInBounds_toArray,List.set_cons_zero,List.set_cons_succ]
   refine wpAnyH_take (i := 9) (oi := ⟨some 83,_,_,_,_,none⟩) (v := ?_) rfl (by kernel_rfl) (by kernel_rfl) (by kernel_rfl) (fun _ _ _ h => h) (Or.inl ⟨by rfl,?_⟩) (by assumption) ?_
   rotate_left
   ·intro W hSw; (try dsimp only at hSw); go_simp; try with_reducible rfl
   simp only [Act.put,List.setIfInBounds_toArray,List.set_cons_zero,List.set_cons_succ]
   refine wpAnyH_take (i := 10) (oi := ⟨some 84,_,_,_,_,none⟩) (v := ?_) rfl (by kernel_rfl) (by kernel_rfl) (by kernel_rfl) (fun _ _ _ h => h) (Or.inl ⟨by rfl,?_⟩) (by assumption) ?_
   rotate_left
   ·intro W hSw; (try dsimp only at hSw); go_simp; try with_reducible rfl
   simp only [Act.put,List.setIfInBounds_toArray,List.set_cons_zero,List.set_cons_succ]
   refine wpAnyH_take (i := 11) (oi := ⟨some 85,_,_,_,_,none⟩) (v := ?_) rfl (by kernel_rfl) (by kernel_rfl) (by kernel_rfl) (fun _ _ _ h => h) (Or.inl ⟨by rfl,?_⟩) (by assumption) ?_
   rotate_left
   ·intro W hSw; (try dsimp only at hSw); go_simp; try with_reducible rfl
   simp only [Act.put,List.setIfInBounds_toArray,List.set_cons_zero,List.set_cons_succ]
   refine wpAnyH_take (i := 12) (oi := ⟨some 86,_,_,_,_,none⟩) (v := ?_) rfl (by kernel_rfl) (by kernel_rfl) (by kernel_rfl) (fun _ _ _ h => h) (Or.inl ⟨by rfl,?_⟩) (by assumption) ?_
   rotate_left
   ·intro W hSw; (try dsimp only at hSw); go_simp; try with_reducible rfl
   simp only [Act.put,List.setIfInBounds_toArray,List.set_cons_zero,List.set_cons_succ]
   refine wpAnyH_take (i := 13) (oi := ⟨some 87,_,_,_,_,none⟩) (v := ?_) rfl (by kernel_rfl) (by kernel_rfl) (by kernel_rfl) (fun _ _ _ h => h) (Or.inl ⟨by rfl,?_⟩) (by assumption) ?_
   rotate_left
   ·intro W hSw; (try dsimp only at hSw); go_simp; try with_reducible rfl
   simp only [Act.put,List.setIfInBounds_toArray,List.set_cons_zero,List.set_cons_succ]
   refine wpAnyH_take (i := 14) (oi := ⟨some 88,_,_,_,_,none⟩) (v := ?_) rfl (by kernel_rfl) (by kernel_rfl) (by kernel_rfl) (fun _ _ _ h => h) (Or.inl ⟨by rfl,?_⟩) (by assumption) ?_
   rotate_left
   ·intro W hSw; (try dsimp only at hSw); go_simp; try with_reducible rfl
   simp only [Act.put,List.setIfInBounds_toArray,List.set_cons_zero,List.set_cons_succ]
   change wpAnyH _ _ _ _ _ 4 (l2L 0 false) _ _
   refine lit2 (d1 := 89) (d2 := 90) (dp := 13) (GS wr (y1 * z2 - y2 * z1) (x0) 26) (by kernel_rfl) ?h0 ?h1 ?hj ?hfin (by simp only [fill2,Act.put,List.setIfInBounds_toArray,List.set_cons_zero,List.set_cons_succ]) hHeld ⟨(Below.refl _ wr).drew,fun h => absurd h (by decide),fun h => absurd h (by decide),fun h => (nomatch h)⟩
   case h0 =>
    intro m v1 v2 p W hG
    have HG := Lib.hid hG
    clear hG
    refine wpOp_step (o := ⟨some 89,_,_,_,_,none⟩) rfl (fun K' hK => ?_)
    have HK := Lib.hid hK
    clear hK
    simp only [fill2,Act.put,List.setIfInBounds_toArray,List.set_cons_zero,List.set_cons_succ]
    go_simp
    go_at_call 161
    (with_reducible refine (HC8.out W (bseq HBwr.out HG.out.bel)).mono ?_)
    rintro r W' ⟨k,ee,ad,l,c,rfl,hz,hq,hb⟩
    have g := HG.out.c1 hb.out hz.out hq.out
    refine HK.out _ _ ⟨KS8.out _ g.bel,_,?_,g⟩
    ·simp only [fill2,Act.put,List.setIfInBounds_toArray,List.set_cons_zero,List.set_cons_succ]
   case h1 =>
    intro m v1 v2 p W hG
    have HG := Lib.hid hG
    clear hG
    refine wpOp_step (o := ⟨some 90,_,_,_,_,none⟩) rfl (fun K' hK => ?_)
    have HK := Lib.hid hK
    clear hK
    simp only [fill2,Act.put,List.setIfInBounds_toArray,List.set_cons_zero,List.set_cons_succ]
    go_simp
    go_at_call 123
    obtain ⟨t,hzt,hqt⟩ := HG.out.n1 (by decide)
    (with_reducible refine (HM8.out W _ _ (bseq HBwr.out HG.out.bel) hzt).mono ?_)
    rintro r W' ⟨k,ee,ad,l,c,rfl,hz,hq,hb⟩
    have g := HG.out.c2 hb.out hz.out hq.out hqt
    refine HK.out _ _ ⟨KS8.out _ g.bel,_,?_,g⟩
    ·simp only [fill2,Act.put,List.setIfInBounds_toArray,List.set_cons_zero,List.set_cons_succ]
   case hj =>
    intro k v1 v2 p W hG
    have HG := Lib.hid hG
    clear hG
    refine wpOp_step (o := ⟨some 13,_,_,_,_,none⟩) rfl (fun K' hK => ?_)
    have HK := Lib.hid hK
    clear hK
    simp only [fill2,Act.put,List.setIfInBounds_toArray,List.set_cons_zero,List.set_cons_succ]
    go_simp
    refine HK.out _ _ ⟨KS8.out _ HG.out.box.bel,_,?_,HG.out.box⟩
    simp only [fill2,Act.put,List.setIfInBounds_toArray,List.set_cons_zero,List.set_cons_succ]
   case hfin =>
    intro v1 v2 p W hS hG
    obtain ⟨t8,q8,hn,hq,ht⟩ := hG.n2 (by decide)
    obtain ⟨b8,rfl,lb,hbx⟩ := hG.bx rfl
    obtain ⟨s8,e8,ad8,l8,c8,rfl,hs⟩ := hn.agg
    obtain ⟨x0_,x1_,x2_⟩ := hbx.c
    have y0_ := hbx.fz 0
    have y1_ := hbx.fz 1
    have y2_ := hbx.fz 2
    have HN8 := Lib.hid (box_put hbx hn)
    have HBL8 := Lib.hid (below_put (x := .int .i64 s8) (y := .slice ad8 l8 c8) (z := .int .i64 e8) hG.bel lb)
    have HQ8 := Lib.hid hq
    have HT8 := Lib.hid ht
    obtain ⟨W8,hWN⟩ : ∃ WN : World,WN = ((W.setCell ⟨b8,0,none⟩ (.int .i64 s8)).setCell ⟨b8,1,none⟩ (.slice ad8 l8 c8)).setCell ⟨b8,2,none⟩ (.int .i64 e8) := ⟨_,rfl⟩
    rw [← hWN] at HN8 HBL8
    have HW := Lib.hid hWN
    have HLB8 := Lib.hid lb
    clear hWN hq hs hn hbx hG lb ht
    simp only [fill2,Act.put,List.setIfInBounds_toArray,List.set_cons_zero,List.set_cons_succ]
    refine wpAnyH_ready (rs := [18]) (by kernel_rfl) (by simp) (AllReadyH.cons (o := ⟨none,_,_,_,_,none⟩) rfl (fun K hK => ?_) AllReadyH.nil)
    have HK := Lib.hid hK
    clear hK
    go_simp
    clear x0_ x1_ x2_ y0_ y1_ y2_
    refine HK.out.out _ _ ?_ (fun _ => ?_)
    ·change _ ∧ _
     rw [← HW.out]
     exact KS8.out _ HBL8.out
    rw [← HW.out]
    refine wpAnyH_done (by kernel_rfl) ?_ _
    clear hS HW HK hHeld KS8 HC8 HM8
    have HBW8 : Hid (Below wr.heap.size wr W8) := bseq HBwr.out HBL8.out
    have hcA := HCA8.out ()
    clear HCA8
    have HBW8' : Hid (Below wr.heap.size wr W8) := HBW8
    have HBW8x := HBW8
    clear HBW8x HBW8'
    go_upto_region 9 with fail
    rename (∀ (a : Act) (w : World),Code.wp _ _ _ a w → _) => hcA
    have HCA9 := Lib.hid (fun (_ : Unit) => hcA)
    clear hcA
    have C9 : Hid (Below W8.heap.size W8 W8.drew) := (Below.refl _ _).drew
    have KS9 : Hid (∀ W,Below W8.heap.size W8 W → (W.cell? ⟨by_,0,none⟩ = some (.int .i64 y0s) ∧ W.cell? ⟨by_,1,none⟩ = some (.slice y0a y0l y0c) ∧ W.cell? ⟨by_,2,none⟩ = some (.int .i64 y0e)) ∧ (W.cell? ⟨bx_,3,none⟩ = some (.int .i64 x1s) ∧ W.cell? ⟨bx_,4,none⟩ = some (.slice x1a x1l x1c) ∧ W.cell? ⟨bx_,5,none⟩ = some (.int .i64 x1e)) ∧ (W.cell? ⟨gz,3,none⟩ = some (.int .i64 z1s) ∧ W.cell? ⟨gz,4,none⟩ = some (.slice z1a z1l z1c) ∧ W.cell? ⟨gz,5,none⟩ = some (.int .i64 z1e)) ∧ (W.cell? ⟨bx_,6,none⟩ = some (.int .i64 x2s) ∧ W.cell? ⟨bx_,7,none⟩ = some (.slice x2a x2l x2c) ∧ W.cell? ⟨bx_,8,none⟩ = some (.int .i64 x2e)) ∧ (W.cell? ⟨gz,6,none⟩ = some (.int .i64 z2s) ∧ W.cell? ⟨gz,7,none⟩ = some (.slice z2a z2l z2c) ∧ W.cell? ⟨gz,8,none⟩ = some (.int .i64 z2e))) := fun W hb => ⟨Ky0.out W (bseq HBW8.out hb),Kx1.out W (bseq HBW8.out hb),Kz1.out W (bseq HBW8.out hb),Kx2.out W (bseq HBW8.out hb),Kz2.out W (bseq HBW8.out hb)⟩
    refine wp_region_held_drew (S := (fun W => (W.cell? ⟨by_,0,none⟩ = some (.int .i64 y0s) ∧ W.cell? ⟨by_,1,none⟩ = some (.slice y0a y0l y0c) ∧ W.cell? ⟨by_,2,none⟩ = some (.int .i64 y0e)) ∧ (W.cell? ⟨bx_,3,none⟩ = some (.int .i64 x1s) ∧ W.cell? ⟨bx_,4,none⟩ = some (.slice x1a x1l x1c) ∧ W.cell? ⟨bx_,5,none⟩ = some (.int .i64 x1e)) ∧ (W.cell? ⟨gz,3,none⟩ = some (.int .i64 z1s) ∧ W.cell? ⟨gz,4,none⟩ = some (.slice z1a z1l z1c) ∧ W.cell? ⟨gz,5,none⟩ = some (.int .i64 z1e)) ∧ (W.cell? ⟨bx_,6,none⟩ = some (.int .i64 x2s) ∧ W.cell? ⟨bx_,7,none⟩ = some (.slice x2a x2l x2c) ∧ W.cell? ⟨bx_,8,none⟩ = some (.int .i64 x2e)) ∧ (W.cell? ⟨gz,6,none⟩ = some (.int .i64 z2s) ∧ W.cell? ⟨gz,7,none⟩ = some (.slice z2a z2l z2c) ∧ W.cell? ⟨gz,8,none⟩ = some (.int .i64 z2e)))) (by kernel_rfl) (KS9.out _ C9.out) (fun hHeld => ?_)
    refine wpAnyH_take (i := 0) (oi := ⟨some 91,_,_,_,_,none⟩) (v := ?_) rfl (by kernel_rfl) (by kernel_rfl) (by kernel_rfl) (fun _ _ _ h => h) (Or.inl ⟨by rfl,?_⟩) (by assumption) ?_
    rotate_left
    ·intro W hSw; (try dsimp only at hSw); go_simp; try with_reducible rfl
    simp only [Act.put,List.setIfInBounds_toArray,List.set_cons_zero,List.set_cons_succ]
    refine wpAnyH_take (i := 1) (oi := ⟨some 92,_,_,_,_,none⟩) (v := ?_) rfl (by kernel_rfl) (by kernel_rfl) (by kernel_rfl) (fun _ _ _ h => h) (Or.inl ⟨by rfl,?_⟩) (by assumption) ?_
    rotate_left
    ·intro W hSw; (try dsimp only at hSw); go_simp; try with_reducible rfl
    simp only [Act.put,List.setIfInBounds_toArray,List.set_cons_zero,List.set_cons_succ]
    refine wpAnyH_take (i := 2) (oi := ⟨some 93,_,_,_,_,none⟩) (v := ?_) rfl (by kernel_rfl) (by kernel_rfl) (by kernel_rfl) (fun _ _ _ h => h) (Or.inl ⟨by rfl,?_⟩) (by assumption) ?_
    rotate_left
    ·intro W hSw; (try dsimp only at hSw); go_simp; try with_reducible rfl
    simp only [Act.put,List.setIfInBounds_toArray,List.set_cons_zero,List.set_cons_succ]
    refine wpAnyH_take (i := 3) (oi := ⟨some 94,_,_,_,_,none⟩) (v := ?_) rfl (by kernel_rfl) (by kernel_rfl) (by kernel_rfl) (fun _ _ _ h => h) (Or.inl ⟨by rfl,?_⟩) (by assumption) ?_
    rotate_left
    ·intro W hSw; (try dsimp only at hSw); go_simp; try with_reducible rfl
    simp only [Act.put,List.setIfInBounds_toArray,List.set_cons_zero,List.set_cons_succ]
    refine wpAnyH_take (i := 4) (oi := ⟨some 95,_,_,_,_,none⟩) (v := ?_) rfl (by kernel_rfl) (by kernel_rfl) (by kernel_rfl) (fun _ _ _ h => h) (Or.inl ⟨by rfl,?_⟩) (by assumption) ?_
    rotate_left
    ·intro W hSw; (try dsimp only at hSw); go_simp; try with_reducible rfl
    simp only [Act.put,List.setIfInBounds_toArray,List.set_cons_zero,List.set_cons_succ]
    refine wpAnyH_take (i := 5) (oi := ⟨some 96,_,_,_,_,none⟩) (v := ?_) rfl (by kernel_rfl) (by kernel_rfl) (by kernel_rfl) (fun _ _ _ h => h) (Or.inl ⟨by rfl,?_⟩) (by assumption) ?_
    rotate_left
    ·intro W hSw; (try dsimp only at hSw); go_simp; try with_reducible rfl
    simp only [Act.put,List.setIfInBounds_toArray,List.set_cons_zero,List.set_cons_succ]
    refine wpAnyH_take (i := 6) (oi := ⟨some 97,_,_,_,_,none⟩) (v := ?_) rfl (by kernel_rfl) (by kernel_rfl) (by kernel_rfl) (fun _ _ _ h => h) (Or.inl ⟨by rfl,?_⟩) (by assumption) ?_
    rotate_left
    ·intro W hSw; (try dsimp only at hSw); go_simp; try with_reducible rfl
    simp only [Act.put,List.setIfInBounds_toArray,List.set_cons_zero,List.set_cons_succ]
    refine wpAnyH_take (i := 7) (oi := ⟨some 98,_,_,_,_,none⟩) (v := ?_) rfl (by kernel_rfl) (by kernel_rfl) (by kernel_rfl) (fun _ _ _ h => h) (Or.inl ⟨by rfl,?_⟩) (by assumption) ?_
    rotate_left
    ·intro W hSw; (try dsimp only at hSw); go_simp; try with_reducible rfl
    simp only [Act.put,List.setIfInBounds_toArray,List.set_cons_zero,List.set_cons_succ]
    refine wpAnyH_take (i := 8) (oi := ⟨some 99,_,_,_,_,none⟩) (v := ?_) rfl (by kernel_rfl) (by kernel_rfl) (by kernel_rfl) (fun _ _ _ h => h) (Or.inl ⟨by rfl,?_⟩) (by assumption) ?_
    rotate_left
    ·intro W hSw; (try dsimp only at hSw); go_simp; try with_reducible rfl
    simp only [Act.put,List.setIfInBounds_toArray,List.set_cons_zero,List.set_cons_succ]
    refine wpAnyH_take (i := 9) (oi := ⟨some 100,_,_,_,_,none⟩) (v := ?_) rfl (by kernel_rfl) (by kernel_rfl) (by kernel_rfl) (fun _ _ _ h => h) (Or.inl ⟨by rfl,?_⟩) (by assumption) ?_
    rotate_left
    ·intro W hSw; (try dsimp only at hSw); go_simp; try with_reducible rfl
    simp only [Act.put,List.setIfInBounds_toArray,List.set_cons_zero,List.set_cons_succ]
    refine wpAnyH_take (i := 10) (oi := ⟨some 101,_,_,_,_,none⟩) (v := ?_) rfl (by kernel_rfl) (by kernel_rfl) (by kernel_rfl) (fun _ _ _ h => h) (Or.inl ⟨by rfl,?_⟩) (by assumption) ?_
    rotate_left
    ·intro W hSw; (try dsimp only at hSw); go_simp; try with_reducible rfl
    simp only [Act.put,List.setIfInBounds_toArray,List.set_cons_zero,List.set_cons_succ]
    refine wpAnyH_take (i := 11) (oi := ⟨some 102,_,_,_,_,none⟩) (v := ?_) rfl (by kernel_rfl) (by kernel_rfl) (by kernel_rfl) (fun _ _ _ h => h) (Or.inl ⟨by rfl,?_⟩) (by assumption) ?_
    rotate_left
    ·intro W hSw; (try dsimp only at hSw); go_simp; try with_reducible rfl
    simp only [Act.put,List.setIfInBounds_toArray,List.set_cons_zero,List.set_cons_succ]
    refine wpAnyH_take (i := 12) (oi := ⟨some 103,_,_,_,_,none⟩) (v := ?_) rfl (by kernel_rfl) (by kernel_rfl) (by kernel_rfl) (fun _ _ _ h => h) (Or.inl ⟨by rfl,?_⟩) (by assumption) ?_
    rotate_left
    ·intro W hSw; (try dsimp only at hSw); go_simp; try with_reducible rfl
    simp only [Act.put,List.setIfInBounds_toArray,List.set_cons_zero,List.set_cons_succ]
    refine wpAnyH_take (i := 13) (oi := ⟨some 104,_,_,_,_,none⟩) (v := ?_) rfl (by kernel_rfl) (by kernel_rfl) (by kernel_rfl) (fun _ _ _ h => h) (Or.inl ⟨by rfl,?_⟩) (by assumption) ?_
    rotate_left
    ·intro W hSw; (try dsimp only at hSw); go_simp; try with_reducible rfl
    simp only [Act.put,List.setIfInBounds_toArray,List.set_cons_zero,List.set_cons_succ]
    refine wpAnyH_take (i := 14) (oi := ⟨some 105,_,_,_,_,none⟩) (v := ?_) rfl (by kernel_rfl) (by kernel_rfl) (by kernel_rfl) (fun _ _ _ h => h) (Or.inl ⟨by rfl,?_⟩) (by assumption) ?_
    rotate_left
    ·intro W hSw; (try dsimp only at hSw); go_simp; try with_reducible rfl
    simp only [Act.put,List.setIfInBounds_toArray,List.set_cons_zero,List.set_cons_succ]
    change wpAnyH _ _ _ _ _ 4 (l2L 0 false) _ _
    refine lit2 (d1 := 106) (d2 := 107) (dp := 14) (GS W8 (x1 * z2 - x2 * z1) (y0) 26) (by kernel_rfl) ?h0 ?h1 ?hj ?hfin (by simp only [fill2,Act.put,List.setIfInBounds_toArray,List.set_cons_zero,List.set_cons_succ]) hHeld ⟨(Below.refl _ W8).drew,fun h => absurd h (by decide),fun h => absurd h (by decide),fun h => (nomatch h)⟩
    case h0 =>
     intro m v1 v2 p W hG
     have HG := Lib.hid hG
     clear hG
     refine wpOp_step (o := ⟨some 106,_,_,_,_,none⟩) rfl (fun K' hK => ?_)
     have HK := Lib.hid hK
     clear hK
     simp only [fill2,Act.put,List.setIfInBounds_toArray,List.set_cons_zero,List.set_cons_succ]
     go_simp
     go_at_call 161
     (with_reducible refine (HC9.out W (bseq HBW8.out HG.out.bel)).mono ?_)
     rintro r W' ⟨k,ee,ad,l,c,rfl,hz,hq,hb⟩
     have g := HG.out.c1 hb.out hz.out hq.out
     refine HK.out _ _ ⟨KS9.out _ g.bel,_,?_,g⟩
     ·simp only [fill2,Act.put,List.setIfInBounds_toArray,List.set_cons_zero,List.set_cons_succ]
    case h1 =>
     intro m v1 v2 p W hG
     have HG := Lib.hid hG
     clear hG
     refine wpOp_step (o := ⟨some 107,_,_,_,_,none⟩) rfl (fun K' hK => ?_)
     have HK := Lib.hid hK
     clear hK
     simp only [fill2,Act.put,List.setIfInBounds_toArray,List.set_cons_zero,List.set_cons_succ]
     go_simp
     go_at_call 123
     obtain ⟨t,hzt,hqt⟩ := HG.out.n1 (by decide)
     (with_reducible refine (HM9.out W _ _ (bseq HBW8.out HG.out.bel) hzt).mono ?_)
     rintro r W' ⟨k,ee,ad,l,c,rfl,hz,hq,hb⟩
     have g := HG.out.c2 hb.out hz.out hq.out hqt
     refine HK.out _ _ ⟨KS9.out _ g.bel,_,?_,g⟩
     ·simp only [fill2,Act.put,List.setIfInBounds_toArray,List.set_cons_zero,List.set_cons_succ]
    case hj =>
     intro k v1 v2 p W hG
     have HG := Lib.hid hG
     clear hG
     refine wpOp_step (o := ⟨some 14,_,_,_,_,none⟩) rfl (fun K' hK => ?_)
     have HK := Lib.hid hK
     clear hK
     simp only [fill2,Act.put,List.setIfInBounds_toArray,List.set_cons_zero,List.set_cons_succ]
     go_simp
     refine HK.out _ _ ⟨KS9.out _ HG.out.box.bel,_,?_,HG.out.box⟩
     simp only [fill2,Act.put,List.setIfInBounds_toArray,List.set_cons_zero,List.set_cons_succ]
    case hfin =>
     intro v1 v2 p W hS hG
     obtain ⟨t9,q9,hn,hq,ht⟩ := hG.n2 (by decide)
     obtain ⟨b9,rfl,lb,hbx⟩ := hG.bx rfl
     obtain ⟨s9,e9,ad9,l9,c9,rfl,hs⟩ := hn.agg
     obtain ⟨x0_,x1_,x2_⟩ := hbx.c
     have y0_ := hbx.fz 0
     have y1_ := hbx.fz 1
     have y2_ := hbx.fz 2
     have HN9 := Lib.hid (box_put hbx hn)
     have HBL9 := Lib.hid (below_put (x := .int .i64 s9) (y := .slice ad9 l9 c9) (z := .int .i64 e9) hG.bel lb)
     have HQ9 := Lib.hid hq
     have HT9 := Lib.hid ht
     obtain ⟨W9,hWN⟩ : ∃ WN : World,WN = ((W.setCell ⟨b9,0,none⟩ (.int .i64 s9)).setCell ⟨b9,1,none⟩ (.slice ad9 l9 c9)).setCell ⟨b9,2,none⟩ (.int .i64 e9) := ⟨_,rfl⟩
     rw [← hWN] at HN9 HBL9
     have HW := Lib.hid hWN
     have HLB9 := Lib.hid lb
     clear hWN hq hs hn hbx hG lb ht
     simp only [fill2,Act.put,List.setIfInBounds_toArray,List.set_cons_zero,List.set_cons_succ]
     refine wpAnyH_ready (rs := [18]) (by kernel_rfl) (by simp) (AllReadyH.cons (o := ⟨none,_,_,_,_,none⟩) rfl (fun K hK => ?_) AllReadyH.nil)
     have HK := Lib.hid hK
     clear hK
     go_simp
     clear x0_ x1_ x2_ y0_ y1_ y2_
     refine HK.out.out _ _ ?_ (fun _ => ?_)
     ·change _ ∧ _
      rw [← HW.out]
      exact KS9.out _ HBL9.out
     rw [← HW.out]
     refine wpAnyH_done (by kernel_rfl) ?_ _
     clear hS HW HK hHeld KS9 HC9 HM9
     have HBW9 : Hid (Below wr.heap.size wr W9) := bseq HBW8.out HBL9.out
     have hcA := HCA9.out ()
     clear HCA9
     go_upto_region 10 with fail
     rename (∀ (a : Act) (w : World),Code.wp _ _ _ a w → _) => hcA
     have HCA10 := Lib.hid (fun (_ : Unit) => hcA)
     clear hcA
     have C10 : Hid (Below W9.heap.size W9 W9.drew) := (Below.refl _ _).drew
     have KS10 : Hid (∀ W,Below W9.heap.size W9 W → (W.cell? ⟨gz,0,none⟩ = some (.int .i64 z0s) ∧ W.cell? ⟨gz,1,none⟩ = some (.slice z0a z0l z0c) ∧ W.cell? ⟨gz,2,none⟩ = some (.int .i64 z0e)) ∧ (W.cell? ⟨bx_,3,none⟩ = some (.int .i64 x1s) ∧ W.cell? ⟨bx_,4,none⟩ = some (.slice x1a x1l x1c) ∧ W.cell? ⟨bx_,5,none⟩ = some (.int .i64 x1e)) ∧ (W.cell? ⟨by_,3,none⟩ = some (.int .i64 y1s) ∧ W.cell? ⟨by_,4,none⟩ = some (.slice y1a y1l y1c) ∧ W.cell? ⟨by_,5,none⟩ = some (.int .i64 y1e)) ∧ (W.cell? ⟨bx_,6,none⟩ = some (.int .i64 x2s) ∧ W.cell? ⟨bx_,7,none⟩ = some (.slice x2a x2l x2c) ∧ W.cell? ⟨bx_,8,none⟩ = some (.int .i64 x2e)) ∧ (W.cell? ⟨by_,6,none⟩ = some (.int .i64 y2s) ∧ W.cell? ⟨by_,7,none⟩ = some (.slice y2a y2l y2c) ∧ W.cell? ⟨by_,8,none⟩ = some (.int .i64 y2e))) := fun W hb => ⟨Kz0.out W (bseq HBW9.out hb),Kx1.out W (bseq HBW9.out hb),Ky1.out W (bseq HBW9.out hb),Kx2.out W (bseq HBW9.out hb),Ky2.out W (bseq HBW9.out hb)⟩
     refine wp_region_held_drew (S := (fun W => (W.cell? ⟨gz,0,none⟩ = some (.int .i64 z0s) ∧ W.cell? ⟨gz,1,none⟩ = some (.slice z0a z0l z0c) ∧ W.cell? ⟨gz,2,none⟩ = some (.int .i64 z0e)) ∧ (W.cell? ⟨bx_,3,none⟩ = some (.int .i64 x1s) ∧ W.cell? ⟨bx_,4,none⟩ = some (.slice x1a x1l x1c) ∧ W.cell? ⟨bx_,5,none⟩ = some (.int .i64 x1e)) ∧ (W.cell? ⟨by_,3,none⟩ = some (.int .i64 y1s) ∧ W.cell? ⟨by_,4,none⟩ = some (.slice y1a y1l y1c) ∧ W.cell? ⟨by_,5,none⟩ = some (.int .i64 y1e)) ∧ (W.cell? ⟨bx_,6,none⟩ = some (.int .i64 x2s) ∧ W.cell? ⟨bx_,7,none⟩ = some (.slice x2a x2l x2c) ∧ W.cell? ⟨bx_,8,none⟩ = some (.int .i64 x2e)) ∧ (W.cell? ⟨by_,6,none⟩ = some (.int .i64 y2s) ∧ W.cell? ⟨by_,7,none⟩ = some (.slice y2a y2l y2c) ∧ W.cell? ⟨by_,8,none⟩ = some (.int .i64 y2e)))) (by kernel_rfl) (KS10.out _ C10.out) (fun hHeld => ?_)
     refine wpAnyH_take (i := 0) (oi := ⟨some 108,_,_,_,_,none⟩) (v := ?_) rfl (by kernel_rfl) (by kernel_rfl) (by kernel_rfl) (fun _ _ _ h => h) (Or.inl ⟨by rfl,?_⟩) (by assumption) ?_
     rotate_left
     ·intro W hSw; (try dsimp only at hSw); go_simp; try with_reducible rfl
     simp only [Act.put,List.setIfInBounds_toArray,List.set_cons_zero,List.set_cons_succ]
     refine wpAnyH_take (i := 1) (oi := ⟨some 109,_,_,_,_,none⟩) (v := ?_) rfl (by kernel_rfl) (by kernel_rfl) (by kernel_rfl) (fun _ _ _ h => h) (Or.inl ⟨by rfl,?_⟩) (by assumption) ?_
     rotate_left
     ·intro W hSw; (try dsimp only at hSw); go_simp; try with_reducible rfl
     simp only [Act.put,List.setIfInBounds_toArray,List.set_cons_zero,List.set_cons_succ]
     refine wpAnyH_take (i := 2) (oi := ⟨some 110,_,_,_,_,none⟩) (v := ?_) rfl (by kernel_rfl) (by kernel_rfl) (by kernel_rfl) (fun _ _ _ h => h) (Or.inl ⟨by rfl,?_⟩) (by assumption) ?_
     rotate_left
     ·intro W hSw; (try dsimp only at hSw); go_simp; try with_reducible rfl
     simp only [Act.put,List.setIfInBounds_toArray,List.set_cons_zero,List.set_cons_succ]
     refine wpAnyH_take (i := 3) (oi := ⟨some 111,_,_,_,_,none⟩) (v := ?_) rfl (by kernel_rfl) (by kernel_rfl) (by kernel_rfl) (fun _ _ _ h => h) (Or.inl ⟨by rfl,?_⟩) (by assumption) ?_
     rotate_left
     ·intro W hSw; (try dsimp only at hSw); go_simp; try with_reducible rfl
     simp only [Act.put,List.setIfInBounds_toArray,List.set_cons_zero,List.set_cons_succ]
     refine wpAnyH_take (i := 4) (oi := ⟨some 112,_,_,_,_,none⟩) (v := ?_) rfl (by kernel_rfl) (by kernel_rfl) (by kernel_rfl) (fun _ _ _ h => h) (Or.inl ⟨by rfl,?_⟩) (by assumption) ?_
     rotate_left
     ·intro W hSw; (try dsimp only at hSw); go_simp; try with_reducible rfl
     simp only [Act.put,List.setIfInBounds_toArray,List.set_cons_zero,List.set_cons_succ]
     refine wpAnyH_take (i := 5) (oi := ⟨some 113,_,_,_,_,none⟩) (v := ?_) rfl (by kernel_rfl) (by kernel_rfl) (by kernel_rfl) (fun _ _ _ h => h) (Or.inl ⟨by rfl,?_⟩) (by assumption) ?_
     rotate_left
     ·intro W hSw; (try dsimp only at hSw); go_simp; try with_reducible rfl
     simp only [Act.put,List.setIfInBounds_toArray,List.set_cons_zero,List.set_cons_succ]
     refine wpAnyH_take (i := 6) (oi := ⟨some 114,_,_,_,_,none⟩) (v := ?_) rfl (by kernel_rfl) (by kernel_rfl) (by kernel_rfl) (fun _ _ _ h => h) (Or.inl ⟨by rfl,?_⟩) (by assumption) ?_
     rotate_left
     ·intro W hSw; (try dsimp only at hSw); go_simp; try with_reducible rfl
     simp only [Act.put,List.setIfInBounds_toArray,List.set_cons_zero,List.set_cons_succ]
     refine wpAnyH_take (i := 7) (oi := ⟨some 115,_,_,_,_,none⟩) (v := ?_) rfl (by kernel_rfl) (by kernel_rfl) (by kernel_rfl) (fun _ _ _ h => h) (Or.inl ⟨by rfl,?_⟩) (by assumption) ?_
     rotate_left
     ·intro W hSw; (try dsimp only at hSw); go_simp; try with_reducible rfl
     simp only [Act.put,List.setIfInBounds_toArray,List.set_cons_zero,List.set_cons_succ]
     refine wpAnyH_take (i := 8) (oi := ⟨some 116,_,_,_,_,none⟩) (v := ?_) rfl (by kernel_rfl) (by kernel_rfl) (by kernel_rfl) (fun _ _ _ h => h) (Or.inl ⟨by rfl,?_⟩) (by assumption) ?_
     rotate_left
     ·intro W hSw; (try dsimp only at hSw); go_simp; try with_reducible rfl
     simp only [Act.put,List.setIfInBounds_toArray,List.set_cons_zero,List.set_cons_succ]
     refine wpAnyH_take (i := 9) (oi := ⟨some 117,_,_,_,_,none⟩) (v := ?_) rfl (by kernel_rfl) (by kernel_rfl) (by kernel_rfl) (fun _ _ _ h => h) (Or.inl ⟨by rfl,?_⟩) (by assumption) ?_
     rotate_left
     ·intro W hSw; (try dsimp only at hSw); go_simp; try with_reducible rfl
     simp only [Act.put,List.setIfInBounds_toArray,List.set_cons_zero,List.set_cons_succ]
     refine wpAnyH_take (i := 10) (oi := ⟨some 118,_,_,_,_,none⟩) (v := ?_) rfl (by kernel_rfl) (by kernel_rfl) (by kernel_rfl) (fun _ _ _ h => h) (Or.inl ⟨by rfl,?_⟩) (by assumption) ?_
     rotate_left
     ·intro W hSw; (try dsimp only at hSw); go_simp; try with_reducible rfl
     simp only [Act.put,List.setIfInBounds_toArray,List.set_cons_zero,List.set_cons_succ]
     refine wpAnyH_take (i := 11) (oi := ⟨some 119,_,_,_,_,none⟩) (v := ?_) rfl (by kernel_rfl) (by kernel_rfl) (by kernel_rfl) (fun _ _ _ h => h) (Or.inl ⟨by rfl,?_⟩) (by assumption) ?_
     rotate_left
     ·intro W hSw; (try dsimp only at hSw); go_simp; try with_reducible rfl
     simp only [Act.put,List.setIfInBounds_toArray,List.set_cons_zero,List.set_cons_succ]
     refine wpAnyH_take (i := 12) (oi := ⟨some 120,_,_,_,_,none⟩) (v := ?_) rfl (by kernel_rfl) (by kernel_rfl) (by kernel_rfl) (fun _ _ _ h => h) (Or.inl ⟨by rfl,?_⟩) (by assumption) ?_
     rotate_left
     ·intro W hSw; (try dsimp only at hSw); go_simp; try with_reducible rfl
     simp only [Act.put,List.setIfInBounds_toArray,List.set_cons_zero,List.set_cons_succ]
     refine wpAnyH_take (i := 13) (oi := ⟨some 121,_,_,_,_,none⟩) (v := ?_) rfl (by kernel_rfl) (by kernel_rfl) (by kernel_rfl) (fun _ _ _ h => h) (Or.inl ⟨by rfl,?_⟩) (by assumption) ?_
     rotate_left
     ·intro W hSw; (try dsimp only at hSw); go_simp; try with_reducible rfl
     simp only [Act.put,List.setIfInBounds_toArray,List.set_cons_zero,List.set_cons_succ]
     refine wpAnyH_take (i := 14) (oi := ⟨some 122,_,_,_,_,none⟩) (v := ?_) rfl (by kernel_rfl) (by kernel_rfl) (by kernel_rfl) (fun _ _ _ h => h) (Or.inl ⟨by rfl,?_⟩) (by assumption) ?_
     rotate_left
     ·intro W hSw; (try dsimp only at hSw); go_simp; try with_reducible rfl
     simp only [Act.put,List.setIfInBounds_toArray,List.set_cons_zero,List.set_cons_succ]
     change wpAnyH _ _ _ _ _ 4 (l2L 0 false) _ _
     refine lit2 (d1 := 123) (d2 := 124) (dp := 15) (GS W9 (x1 * y2 - x2 * y1) (z0) 17) (by kernel_rfl) ?h0 ?h1 ?hj ?hfin (by simp only [fill2,Act.put,List.setIfInBounds_toArray,List.set_cons_zero,List.set_cons_succ]) hHeld ⟨(Below.refl _ W9).drew,fun h => absurd h (by decide),fun h => absurd h (by decide),fun h => (nomatch h)⟩
     case h0 =>
      intro m v1 v2 p W hG
      have HG := Lib.hid hG
      clear hG
      refine wpOp_step (o := ⟨some 123,_,_,_,_,none⟩) rfl (fun K' hK => ?_)
      have HK := Lib.hid hK
      clear hK
      simp only [fill2,Act.put,List.setIfInBounds_toArray,List.set_cons_zero,List.set_cons_succ]
      go_simp
      go_at_call 161
      (with_reducible refine (HC10.out W (bseq HBW9.out HG.out.bel)).mono ?_)
      rintro r W' ⟨k,ee,ad,l,c,rfl,hz,hq,hb⟩
      have g := HG.out.c1 hb.out hz.out hq.out
      refine HK.out _ _ ⟨KS10.out _ g.bel,_,?_,g⟩
      · simp only [fill2,Act.put,List.setIfInBounds_toArray,List.set_cons_zero,List.set_cons_succ]
     case h1 =>
      intro m v1 v2 p W hG
      have HG := Lib.hid hG
      clear hG
      refine wpOp_step (o := ⟨some 124,_,_,_,_,none⟩) rfl (fun K' hK => ?_)
      have HK := Lib.hid hK
      clear hK
      simp only [fill2,Act.put,List.setIfInBounds_toArray,List.set_cons_zero,List.set_cons_succ]
      go_simp
      go_at_call 123
      obtain ⟨t,hzt,hqt⟩ := HG.out.n1 (by decide)
      (with_reducible refine (HM10.out W _ _ (bseq HBW9.out HG.out.bel) hzt).mono ?_)
      rintro r W' ⟨k,ee,ad,l,c,rfl,hz,hq,hb⟩
      have g := HG.out.c2 hb.out hz.out hq.out hqt
      refine HK.out _ _ ⟨KS10.out _ g.bel,_,?_,g⟩
      · simp only [fill2,Act.put,List.setIfInBounds_toArray,List.set_cons_zero,List.set_cons_succ]
     case hj =>
      intro k v1 v2 p W hG
      have HG := Lib.hid hG
      clear hG
      refine wpOp_step (o := ⟨some 15,_,_,_,_,none⟩) rfl (fun K' hK => ?_)
      have HK := Lib.hid hK
      clear hK
      simp only [fill2,Act.put,List.setIfInBounds_toArray,List.set_cons_zero,List.set_cons_succ]
      go_simp
      refine HK.out _ _ ⟨KS10.out _ HG.out.box.bel,_,?_,HG.out.box⟩
      simp only [fill2,Act.put,List.setIfInBounds_toArray,List.set_cons_zero,List.set_cons_succ]
     case hfin =>
      intro v1 v2 p W hS hG
      obtain ⟨t10,q10,hn,hq,ht⟩ := hG.n2 (by decide)
      obtain ⟨b10,rfl,lb,hbx⟩ := hG.bx rfl
      obtain ⟨s10,e10,ad10,l10,c10,rfl,hs⟩ := hn.agg
      obtain ⟨x0_,x1_,x2_⟩ := hbx.c
      have y0_ := hbx.fz 0
      have y1_ := hbx.fz 1
      have y2_ := hbx.fz 2
      have HN10 := Lib.hid (box_put hbx hn)
      have HBL10 := Lib.hid (below_put (x := .int .i64 s10) (y := .slice ad10 l10 c10) (z := .int .i64 e10) hG.bel lb)
      have HQ10 := Lib.hid hq
      have HT10 := Lib.hid ht
      obtain ⟨W10,hWN⟩ : ∃ WN : World,WN = ((W.setCell ⟨b10,0,none⟩ (.int .i64 s10)).setCell ⟨b10,1,none⟩ (.slice ad10 l10 c10)).setCell ⟨b10,2,none⟩ (.int .i64 e10) := ⟨_,rfl⟩
      rw [← hWN] at HN10 HBL10
      have HW := Lib.hid hWN
      have HLB10 := Lib.hid lb
      clear hWN hq hs hn hbx hG lb ht
      simp only [fill2,Act.put,List.setIfInBounds_toArray,List.set_cons_zero,List.set_cons_succ]
      refine wpAnyH_ready (rs := [18]) (by kernel_rfl) (by simp) (AllReadyH.cons (o := ⟨none,_,_,_,_,none⟩) rfl (fun K hK => ?_) AllReadyH.nil)
      have HK := Lib.hid hK
      clear hK
      go_simp
      clear x0_ x1_ x2_ y0_ y1_ y2_
      refine HK.out.out _ _ ?_ (fun _ => ?_)
      · change _ ∧ _
        rw [← HW.out]
        exact KS10.out _ HBL10.out
      rw [← HW.out]
      refine wpAnyH_done (by kernel_rfl) ?_ _
      clear hS HW HK hHeld KS10 HC10 HM10
      have HBW10 : Hid (Below wr.heap.size wr W10) := bseq HBW9.out HBL10.out
      have hcA := HCA10.out ()
      clear HCA10
      go_upto_region 11 with fail
      rename (∀ (a : Act) (w : World),Code.wp _ _ _ a w → _) => hcA
      have HCA11 := Lib.hid (fun (_ : Unit) => hcA)
      clear hcA
      have HRZ : Hid (Box3 tNum W10 (w.heap.size + 1 + 1 + 1 + 1) (.int .i64 0) (.slice none 0 0) (.int .i64 0)) := Box3.below HRW.out HBW10.out
      have HLR : Hid (w.heap.size + 1 + 1 + 1 + 1 < wr.heap.size) := HRW.out.lt
      have B8 : Hid (Box3 tNum W10 b8 (.int .i64 s8) (.slice ad8 l8 c8) (.int .i64 e8)) := Box3.below (Box3.below HN8.out.2 HBL9.out) HBL10.out
      have B9 : Hid (Box3 tNum W10 b9 (.int .i64 s9) (.slice ad9 l9 c9) (.int .i64 e9)) := Box3.below HN9.out.2 HBL10.out
      have B10 : Hid (Box3 tNum W10 b10 (.int .i64 s10) (.slice ad10 l10 c10) (.int .i64 e10)) := HN10.out.2
      have G8 : Hid (w.heap.size + 1 + 1 + 1 + 1 ≠ b8) := by have := HLR.out; have := HLB8.out; unfold Hid; omega
      have G9 : Hid (w.heap.size + 1 + 1 + 1 + 1 ≠ b9) := by have := HLR.out; have := HLB9.out; have := HBW8.out.size; unfold Hid; omega
      have G10 : Hid (w.heap.size + 1 + 1 + 1 + 1 ≠ b10) := by have := HLR.out; have := HLB10.out; have := HBW9.out.size; unfold Hid; omega
      have HSU : Hid (∀ W,Below W10.heap.size W10 W → Calls Tryz.prog 125 #[.agg #[.int .i64 s8,.slice ad8 l8 c8,.int .i64 e8],.agg #[.int .i64 s9,.slice ad9 l9 c9,.int .i64 e9]] W (NumR 35 (q8 - q9) W)) := fun W hb => subR (((HN8.out.1.below HBL9.out).below HBL10.out).below hb) ((HN9.out.1.below HBL10.out).below hb) (by omega)
      have HAU : Hid (∀ W v k,Below W10.heap.size W10 W → NumK W v 35 k → Calls Tryz.prog 160 #[v,.agg #[.int .i64 s10,.slice ad10 l10 c10,.int .i64 e10]] W (NumR 36 (k + q10) W)) := fun W v k hb hv => addR hv ((HN10.out.1.below hb).up (by omega)) (by omega)
      have C11 : Hid (Below W10.heap.size W10 W10.drew) := (Below.refl _ _).drew
      have KS11 : Hid (∀ W,Below W10.heap.size W10 W → (W.cell? ⟨b8,0,none⟩ = some (.int .i64 s8) ∧ W.cell? ⟨b8,1,none⟩ = some (.slice ad8 l8 c8) ∧ W.cell? ⟨b8,2,none⟩ = some (.int .i64 e8)) ∧ (W.cell? ⟨b9,0,none⟩ = some (.int .i64 s9) ∧ W.cell? ⟨b9,1,none⟩ = some (.slice ad9 l9 c9) ∧ W.cell? ⟨b9,2,none⟩ = some (.int .i64 e9)) ∧ (W.cell? ⟨b10,0,none⟩ = some (.int .i64 s10) ∧ W.cell? ⟨b10,1,none⟩ = some (.slice ad10 l10 c10) ∧ W.cell? ⟨b10,2,none⟩ = some (.int .i64 e10))) := fun W hb => ⟨(Box3.below B8.out hb).c,(Box3.below B9.out hb).c,(Box3.below B10.out hb).c⟩
      have KP11 : Hid (∀ W v0 v1 v2,Below W10.heap.size W10 W → ((((W.setCell ⟨w.heap.size + 1 + 1 + 1 + 1,0,none⟩ v0).setCell ⟨w.heap.size + 1 + 1 + 1 + 1,1,none⟩ v1).setCell ⟨w.heap.size + 1 + 1 + 1 + 1,2,none⟩ v2).cell? ⟨b8,0,none⟩ = some (.int .i64 s8) ∧ (((W.setCell ⟨w.heap.size + 1 + 1 + 1 + 1,0,none⟩ v0).setCell ⟨w.heap.size + 1 + 1 + 1 + 1,1,none⟩ v1).setCell ⟨w.heap.size + 1 + 1 + 1 + 1,2,none⟩ v2).cell? ⟨b8,1,none⟩ = some (.slice ad8 l8 c8) ∧ (((W.setCell ⟨w.heap.size + 1 + 1 + 1 + 1,0,none⟩ v0).setCell ⟨w.heap.size + 1 + 1 + 1 + 1,1,none⟩ v1).setCell ⟨w.heap.size + 1 + 1 + 1 + 1,2,none⟩ v2).cell? ⟨b8,2,none⟩ = some (.int .i64 e8)) ∧ ((((W.setCell ⟨w.heap.size + 1 + 1 + 1 + 1,0,none⟩ v0).setCell ⟨w.heap.size + 1 + 1 + 1 + 1,1,none⟩ v1).setCell ⟨w.heap.size + 1 + 1 + 1 + 1,2,none⟩ v2).cell? ⟨b9,0,none⟩ = some (.int .i64 s9) ∧ (((W.setCell ⟨w.heap.size + 1 + 1 + 1 + 1,0,none⟩ v0).setCell ⟨w.heap.size + 1 + 1 + 1 + 1,1,none⟩ v1).setCell ⟨w.heap.size + 1 + 1 + 1 + 1,2,none⟩ v2).cell? ⟨b9,1,none⟩ = some (.slice ad9 l9 c9) ∧ (((W.setCell ⟨w.heap.size + 1 + 1 + 1 + 1,0,none⟩ v0).setCell ⟨w.heap.size + 1 + 1 + 1 + 1,1,none⟩ v1).setCell ⟨w.heap.size + 1 + 1 + 1 + 1,2,none⟩ v2).cell? ⟨b9,2,none⟩ = some (.int .i64 e9)) ∧ ((((W.setCell ⟨w.heap.size + 1 + 1 + 1 + 1,0,none⟩ v0).setCell ⟨w.heap.size + 1 + 1 + 1 + 1,1,none⟩ v1).setCell ⟨w.heap.size + 1 + 1 + 1 + 1,2,none⟩ v2).cell? ⟨b10,0,none⟩ = some (.int .i64 s10) ∧ (((W.setCell ⟨w.heap.size + 1 + 1 + 1 + 1,0,none⟩ v0).setCell ⟨w.heap.size + 1 + 1 + 1 + 1,1,none⟩ v1).setCell ⟨w.heap.size + 1 + 1 + 1 + 1,2,none⟩ v2).cell? ⟨b10,1,none⟩ = some (.slice ad10 l10 c10) ∧ (((W.setCell ⟨w.heap.size + 1 + 1 + 1 + 1,0,none⟩ v0).setCell ⟨w.heap.size + 1 + 1 + 1 + 1,1,none⟩ v1).setCell ⟨w.heap.size + 1 + 1 + 1 + 1,2,none⟩ v2).cell? ⟨b10,2,none⟩ = some (.int .i64 e10))) := fun W v0 v1 v2 hb =>
        ⟨(((Box3.far (Box3.below B8.out hb) (fun e => G8.out e.symm) v0).far (fun e => G8.out e.symm) v1).far (fun e => G8.out e.symm) v2).c,(((Box3.far (Box3.below B9.out hb) (fun e => G9.out e.symm) v0).far (fun e => G9.out e.symm) v1).far (fun e => G9.out e.symm) v2).c,(((Box3.far (Box3.below B10.out hb) (fun e => G10.out e.symm) v0).far (fun e => G10.out e.symm) v1).far (fun e => G10.out e.symm) v2).c⟩
      have n0 := KS11.out _ C11.out
      clear B8 B9 B10 G8 G9 G10 HN8 HN9 HN10
      go_region_held3 (fun W => (W.cell? ⟨b8,0,none⟩ = some (.int .i64 s8) ∧ W.cell? ⟨b8,1,none⟩ = some (.slice ad8 l8 c8) ∧ W.cell? ⟨b8,2,none⟩ = some (.int .i64 e8)) ∧ (W.cell? ⟨b9,0,none⟩ = some (.int .i64 s9) ∧ W.cell? ⟨b9,1,none⟩ = some (.slice ad9 l9 c9) ∧ W.cell? ⟨b9,2,none⟩ = some (.int .i64 e9)) ∧ (W.cell? ⟨b10,0,none⟩ = some (.int .i64 s10) ∧ W.cell? ⟨b10,1,none⟩ = some (.slice ad10 l10 c10) ∧ W.cell? ⟨b10,2,none⟩ = some (.int .i64 e10))) (first | exact n0 | exact n1 | exact n2 | exact n3 _ _ _ | assumption)
        (first
         |(go_at_call 125; (with_reducible refine (HSU.out _ C11.out).mono ?_); rintro r w11 ⟨e11,a11,l11,c11,rfl,HZ11,hb11⟩; have C12 := Lib.hid (bseq C11.out hb11.out); have n1 := KS11.out _ C12.out)
         |(go_at_call 160; (with_reducible refine (HAU.out _ _ _ C12.out HZ11.out).mono ?_); rintro r w12 ⟨e12,a12,l12,c12,rfl,HZ12,hb12⟩; have C13 := Lib.hid (bseq C12.out hb12.out); have n2 := KS11.out _ C13.out; have n3 := fun v0 v1 v2 => KP11.out _ v0 v1 v2 C13.out; have R12 := Lib.hid (Box3.below HRZ.out C13.out); obtain ⟨r0,r1,r2⟩ := R12.out.c; have g0 := R12.out.fz 0; have g1 := R12.out.fz 1; have g2 := R12.out.fz 2))
      all_goals
        have hcA := HCA11.out ()
        obtain ⟨h0,h1,h2⟩ := (R12.out.put (.int .i64 (sgnI (q8 - q9 + q10))) (.slice a12 l12 c12) (.int .i64 e12)).c
        have HFS := Lib.hid (HV.out z0 z1 z2 t8 t9 t10 q8 q9 q10 HZ0.out HZ1.out HZ2.out HT8.out HQ8.out HT9.out HQ9.out HT10.out HQ10.out)
        have HFB := Lib.hid (below_put (x := .int .i64 (sgnI (q8 - q9 + q10))) (y := .slice a12 l12 c12) (z := .int .i64 e12) (b := w.heap.size + 1 + 1 + 1 + 1) (bseq (bseq HBW0.out HBW10.out) C13.out) (by omega))
        clear n0 n1 n2 n3 r0 r1 r2 g0 g1 g2
        go_wp2
        refine bodyPost_ret (by simp [results,Tryz.results122,go_sem,h0,h1,h2]; try rfl) rfl ?_
        rw [HFS.out] at HFB ⊢
        exact ⟨_,_,_,_,rfl,HFB.out⟩
end Go.Proofs.YtbagikgpgdlkcaaGreatDoor
