/- Part of the proof. No conditions. -/
import Derived.Test.YtbagikgpgdlkcaaGreatDoorZ6
import Derived.Deep.RegionHeld3
set_option linter.all false
set_option maxHeartbeats 8000000
set_option maxRecDepth 100000
namespace Go.Proofs.YtbagikgpgdlkcaaGreatDoor
open Go.RowKit Go.Maps
def tokR (v : Value) : Option (DataW Value × List MemPlace) := some (.held v,[])
noncomputable def updV (f : Value → Option Value) (k v : Value) : Value → Option Value := fun x => open Classical in if x = k then some v else f x
noncomputable def delV (f : Value → Option Value) (k : Value) : Value → Option Value := fun x => open Classical in if x = k then none else f x
theorem updV_same (f : Value → Option Value) (k v : Value) : updV f k v k = some v := by simp [updV]
theorem updV_other (f : Value → Option Value) {k x : Value} (v : Value) (h : x ≠ k) : updV f k v x = f x := by simp [updV,h]
theorem delV_same (f : Value → Option Value) (k : Value) : delV f k k = none := by simp [delV]
theorem delV_other (f : Value → Option Value) {k x : Value} (h : x ≠ k) : delV f k x = f x := by simp [delV,h]
section
variable {P : Program} {k : TypeId} {w : World} {b n : Nat} {f : Value → Option Value}
structure DataF (P : Program) (k : TypeId) (D : DataW Value) (f : Value → Option Value) : Prop where
 has : ∀ key kl,keyOf P k key = some kl → Maps.has D kl = (f key).isSome
 val : ∀ key kl v,keyOf P k key = some kl → f key = some v → ∀ zd,D.atKey kl zd = .held v
 key : ∀ key,f key ≠ none → ∃ kl,keyOf P k key = some kl
def FMap (P : Program) (w : World) (k : TypeId) (b n : Nat) (f : Value → Option Value) : Prop :=
 ∃ D,w.ownsMap P k tokR b n D ∧ DataF P k D f
theorem FMap.made (P : Program) (w : World) (k : TypeId) : FMap P (w.alloc (.map #[] 0)) k w.heap.size 0 (fun _ => none) :=
 ⟨_,World.ownsMap_made w P k tokR,⟨fun _ _ _ => rfl,fun _ _ _ _ h => (nomatch h),fun _ h => absurd rfl h⟩⟩
theorem FMap.mono (h : FMap P w k b n f) {n' : Nat} (hn : n ≤ n') : FMap P w k b n' f := by
 obtain ⟨D,h1,h2⟩ := h; exact ⟨D,h1.mono hn,h2⟩
theorem FMap.lt (h : FMap P w k b n f) : b < w.heap.size := by obtain ⟨D,h1,_⟩ := h; exact h1.lt
theorem FMap.kept {w' : World} {row : Option Nat} (h : FMap P w k b n f) (hg : w.grownBy w' row) (hne : some b ≠ row) : FMap P w' k b n f := by
 obtain ⟨D,h1,h2⟩ := h; exact ⟨D,h1.kept hg hne,h2⟩
theorem FMap.same {w' : World} (h : FMap P w k b n f) (hb : w'.heap[b]? = w.heap[b]?) : FMap P w' k b n f := by
 obtain ⟨D,⟨es,clock,h1,h3⟩,h2⟩ := h; exact ⟨D,⟨es,clock,hb.trans h1,h3⟩,h2⟩
theorem FMap.isMap (h : FMap P w k b n f) : ∃ es clock,w.heap[b]? = some (.map es clock) := by
 obtain ⟨D,⟨es,clock,h1,h3⟩,h2⟩ := h; exact ⟨es,clock,h1⟩
theorem keys_ne (K : Keyed P k) {key key' : Value} {kl kl' : Lit} (h : keyOf P k key = some kl) (h' : keyOf P k key' = some kl') (hne : key' ≠ key) : kl' ≠ kl :=
 fun e => hne (K.inj (h' ▸ congrArg some e) h)
theorem isMap_of {D : DataW Value} {R : Value → Option (DataW Value × List MemPlace)} (h : w.ownsMap P k R b n D) : Maps.IsMap D := by
 obtain ⟨es,clock,_,_,_,rfl⟩ := h; exact ⟨_,rfl⟩
theorem DataF.put {D : DataW Value} (hm : Maps.IsMap D) (K : Keyed P k) (h : DataF P k D f) {key : Value} {kl : Lit} (hkey : keyOf P k key = some kl) (v : Value) : DataF P k (D.put kl (.held v)) (updV f key v) := by
 refine ⟨fun key' kl' hk' => ?_,fun key' kl' v' hk' hf zd => ?_,fun key' hk' => ?_⟩
 ·by_cases e : key' = key
  ·subst e
   rw [hkey] at hk'; cases hk'
   rw [Maps.has_put_same hm (K.key hkey),updV_same]; rfl
  ·rw [Maps.has_put_other (keys_ne K hkey hk' e),updV_other _ _ e]; exact h.has _ _ hk'
 ·by_cases e : key' = key
  ·subst e
   rw [hkey] at hk'; cases hk'
   rw [updV_same] at hf; cases hf
   rw [Maps.atKey_put_same hm (K.key hkey)]
  ·rw [updV_other _ _ e] at hf
   rw [Maps.atKey_put_other (keys_ne K hkey hk' e)]; exact h.val _ _ _ hk' hf zd
 ·by_cases e : key' = key
  ·subst e; exact ⟨_,hkey⟩
  ·rw [updV_other _ _ e] at hk'; exact h.key _ hk'
theorem DataF.del {D : DataW Value} (K : Keyed P k) (h : DataF P k D f) {key : Value} {kl : Lit} (hkey : keyOf P k key = some kl) : DataF P k (D.del kl) (delV f key) := by
 refine ⟨fun key' kl' hk' => ?_,fun key' kl' v' hk' hf zd => ?_,fun key' hk' => ?_⟩
 ·by_cases e : key' = key
  ·subst e
   rw [hkey] at hk'; cases hk'
   rw [Maps.has_del_same,delV_same]; rfl
  ·rw [Maps.has_del_other (keys_ne K hkey hk' e),delV_other _ e]; exact h.has _ _ hk'
 ·by_cases e : key' = key
  ·subst e; rw [delV_same] at hf; cases hf
  ·rw [delV_other _ e] at hf
   rw [Maps.atKey_del_other (keys_ne K hkey hk' e)]; exact h.val _ _ _ hk' hf zd
 ·by_cases e : key' = key
  ·subst e; exact ⟨_,hkey⟩
  ·rw [delV_other _ e] at hk'; exact h.key _ hk'
theorem FMap.look {t e : TypeId} (h : FMap P w k b n f) (K : Keyed P k) (ht : P.underlying t = some (.map k e)) {z : Value} (hz : (zeroValue e).run P w = .ok z w) {key : Value} {kl : Lit} (hkey : keyOf P k key = some kl) :
  (Instr.lookup t (.map (some b)) key false).run P w = .ok ((f key).getD z) w ∧ (Instr.lookup t (.map (some b)) key true).run P w = .ok (.tuple #[(f key).getD z,.bool (f key).isSome]) w := by
 obtain ⟨D,hown,hD⟩ := h
 have hh := hD.has key kl hkey
 obtain ⟨v,ps,hrun,hv⟩ := hown.lookup K ht hz (rfl : tokR z = some (.held z,[])) hkey
 obtain ⟨v2,ps2,hrun2,hv2⟩ := hown.look_ok K ht hz (rfl : tokR z = some (.held z,[])) hkey
 have ev : ∀ v ps,tokR v = some (D.atKey kl (.held z),ps) → v = (f key).getD z := by
  intro v ps hv
  cases hf : f key with
  | none =>
   rw [hf] at hh
   rw [Maps.atKey_of_not_has (by simpa using hh)] at hv
   unfold tokR at hv; cases hv; rfl
  | some u =>
   rw [hD.val key kl u hkey hf] at hv
   unfold tokR at hv; cases hv; rfl
 rw [hrun,hrun2,ev v ps hv,ev v2 ps2 hv2,hh]
 exact ⟨rfl,rfl⟩
end
theorem FMap.store {P : Program} {k : TypeId} {w : World} {b n : Nat} {f : Value → Option Value} {t e : TypeId} (h : FMap P w k b n f) (K : Keyed P k) (ht : P.underlying t = some (.map k e)) (hn : n < maxLen) {key : Value} {kl : Lit} (hkey : keyOf P k key = some kl) (val : Value) :
  ∃ w', (Instr.mapUpdate t (.map (some b)) key val).run P w = .ok () w' ∧ FMap P w' k b (n + 1) (updV f key val) ∧ w.grownBy w' (some b) := by
 obtain ⟨D,hown,hD⟩ := h
 obtain ⟨w', hrun,h1,h2⟩ := hown.update K ht hn hkey (rfl : tokR val = some (.held val,[]))
 exact ⟨w', hrun,⟨_,h1,hD.put (isMap_of hown) K hkey val⟩,h2⟩
section
variable {P : Program} (w : World) {ops : Array Oper} {rest : List Oper} {o : Oper} {a : Act} {Q : Exit → Act → World → Prop}
theorem wp_look_ok (hg : o.guard = none) (m x : Operand) (t : TypeId) (hop : o.op = Op.lookup t m x true) (k e : TypeId) (K : Keyed P k) (ht : P.underlying t = some (.map k e)) (z : Value) (hz : (zeroValue e).run P w = .ok z w)
  (b n : Nat) (f : Value → Option Value) (hm : a.eval m = .map (some b)) (h : FMap P w k b n f) (key : Value) (hx : a.eval x = key) (kl : Lit) (hkey : keyOf P k key = some kl) (v : Value) (hv : (f key).getD z = v) (ok : Bool) (hok : (f key).isSome = ok)
  (hK : wpList P ops Q rest (a.put o.dst (.tuple #[v,.bool ok])) w) : wpList P ops Q (o :: rest) a w := by
 refine wpList_plain hg fun K' hK' => ?_
 have hrun := (h.look K ht hz hkey).2
 unfold Oper.wp
 simp [execOp,hop,hm,hx,hrun,Result.andThen]
 rw [hv,hok]
 exact hK' _ _ hK
theorem wp_store (hg : o.guard = none) (m x v : Operand) (t : TypeId) (hop : o.op = Op.mapUpdate t m x v) (k e : TypeId) (K : Keyed P k) (ht : P.underlying t = some (.map k e))
  (b n : Nat) (f : Value → Option Value) (hm : a.eval m = .map (some b)) (h : FMap P w k b n f) (hn : n < maxLen) (key val : Value) (hx : a.eval x = key) (hv : a.eval v = val) (kl : Lit) (hkey : keyOf P k key = some kl)
  (hK : ∀ w', FMap P w' k b (n + 1) (updV f key val) → w.grownBy w' (some b) → wpList P ops Q rest (a.put o.dst undef) w') : wpList P ops Q (o :: rest) a w := by
 obtain ⟨D,hown,hD⟩ := h
 exact wpList_mapUpdate_own w hg m x v t hop k e K ht tokR b n D hm hown hn key val kl hx hv hkey (.held val) [] rfl
  (fun w' h1 h2 => hK w' ⟨_,h1,hD.put (isMap_of hown) K hkey val⟩ h2)
theorem wp_delete (hg : o.guard = none) (m x : Operand) (t k : TypeId) (hop : o.op = Op.call { callee := Callee.builtin Builtin.delete,args := #[m,x],argTypes := #[t,k] }) (e : TypeId) (K : Keyed P k) (ht : P.underlying t = some (.map k e))
  (b n : Nat) (f : Value → Option Value) (hm : a.eval m = .map (some b)) (h : FMap P w k b n f) (key : Value) (hx : a.eval x = key) (kl : Lit) (hkey : keyOf P k key = some kl)
  (hK : ∀ w', FMap P w' k b n (delV f key) → w.grownBy w' (some b) → wpList P ops Q rest (a.put o.dst (.tuple #[])) w') : wpList P ops Q (o :: rest) a w := by
 obtain ⟨D,hown,hD⟩ := h
 exact wpList_delete_own w hg m x t k hop e K ht tokR b n D hm hown key kl hx hkey
  (fun w' h1 h2 => hK w' ⟨_,h1,hD.del K hkey⟩ h2.grown)
end
section
variable {P : Program} {k : TypeId} {w : World} {b r n cnt : Nat} {f : Value → Option Value} {lf : Value → Bool}
def FRange (P : Program) (w : World) (k : TypeId) (b r n : Nat) (f : Value → Option Value) (lf : Value → Bool) (cnt : Nat) : Prop :=
 ∃ D left,w.ranges P k tokR b r n D left cnt ∧ DataF P k D f ∧ (∀ key kl,keyOf P k key = some kl → lf key = left kl) ∧ (∀ key,lf key = true → f key ≠ none) ∧ ∀ kl,left kl = true → ∃ key,keyOf P k key = some kl
theorem FRange.owns (h : FRange P w k b r n f lf cnt) : FMap P w k b n f := by
 obtain ⟨D,left,h1,h2,_⟩ := h; exact ⟨D,h1.owns,h2⟩
theorem FRange.left_eq (h : FRange P w k b r n f lf cnt) : w.rangeLeft b r = cnt := by
 obtain ⟨D,left,h1,_⟩ := h; exact h1.left_eq
theorem FRange.kept {w' : World} {row : Option Nat} (h : FRange P w k b r n f lf cnt) (hg : w.grownBy w' row) (hb' : some b ≠ row) (hr' : some r ≠ row) : FRange P w' k b r n f lf cnt := by
 obtain ⟨D,left,h1,h2⟩ := h; exact ⟨D,left,h1.kept hg hb' hr', h2⟩
theorem FRange.lt (h : FRange P w k b r n f lf cnt) : r < w.heap.size := by obtain ⟨D,left,h1,_⟩ := h; exact h1.lt
theorem has_key {D : DataW Value} (h : w.ownsMap P k tokR b n D) {kl : Lit} (hk : Maps.has D kl = true) : ∃ key,keyOf P k key = some kl := by
 obtain ⟨es,clock,_,F,_,rfl⟩ := h
 obtain ⟨p,hp,hpk⟩ := List.any_eq_true.1 hk
 obtain ⟨x,hx,rfl⟩ := List.mem_map.1 (mem_sorted.1 hp)
 obtain ⟨y,hy⟩ := F.reads x hx
 have := WideElems.rd_key hy
 refine ⟨x.key,?_⟩
 rw [this,← WideAt.sameKey_eq hpk,WideElems.rg_of hy]
end
section
variable {P : Program} (w : World) {ops : Array Oper} {rest : List Oper} {o : Oper} {a : Act} {Q : Exit → Act → World → Prop}
theorem wp_range (hg : o.guard = none) (m : Operand) (t : TypeId) (hop : o.op = Op.range t m) (k e : TypeId) (K : Keyed P k) (ht : P.underlying t = some (.map k e)) (b n : Nat) (f : Value → Option Value)
  (hm : a.eval m = .map (some b)) (h : FMap P w k b n f)
  (hK : ∀ w', FRange P w' k b w.heap.size n f (fun x => (f x).isSome) (w'.rangeLeft b w.heap.size) → w.grownBy w' none → w'.heap.size = w.heap.size + 1 → wpList P ops Q rest (a.put o.dst (.pointer (some ⟨w.heap.size,0,none⟩))) w') :
  wpList P ops Q (o :: rest) a w := by
 obtain ⟨D,hown,hD⟩ := h
 refine wpList_range_own w hg m t hop k e K ht tokR b n D hm hown fun w' h1 h2 h3 => hK w' ⟨D,_,h1.left_eq ▸ h1,hD,fun key kl hkl => (hD.has key kl hkl).symm,fun key hl => by intro e; simp [e] at hl,fun kl hkl => has_key hown hkl⟩ h2 h3
theorem wp_next (hg : o.guard = none) (it : Operand) (hop : o.op = Op.next it false) (k : TypeId) (K : Keyed P k) {α β : Type} (mkK : α → Value) (mkV : β → Value) (b r n : Nat) (f : Value → Option Value)
  (invK : ∀ key,f key ≠ none → ∃ x,key = mkK x) (invV : ∀ key v,f key = some v → ∃ c,v = mkV c) (lf : Value → Bool) (cnt : Nat)
  (hit : a.eval it = .pointer (some ⟨r,0,none⟩)) (h : FRange P w k b r n f lf cnt)
  (hDone : (∀ key,lf key = false) → wpList P ops Q rest (a.put o.dst (.tuple #[.bool false])) w)
  (hMore : ∀ (x : α) (c : β) (w' : World) (cnt' : Nat) (lf' : Value → Bool),lf (mkK x) = true → f (mkK x) = some (mkV c) → lf' (mkK x) = false → (∀ y,y ≠ mkK x → lf' y = lf y) → FRange P w' k b r n f lf' cnt' → cnt' < cnt →
   w.grownBy w' (some r) → w'.heap.size = w.heap.size → (Instr.entry (.pointer (some ⟨r,0,none⟩))).run P w' = .ok (.tuple #[mkK x,mkV c]) w' → wpList P ops Q rest (a.put o.dst (.tuple #[.bool true,mkK x,mkV c])) w') :
  wpList P ops Q (o :: rest) a w := by
 obtain ⟨D,left,hr,hD,hl,hn,hk⟩ := h
 refine wpList_plain hg fun K' hK' => ?_
 unfold Oper.wp
 rcases hr.next K o.type with ⟨h0,hl0,hrun⟩ | ⟨key,v,kl,y,w', cnt', hkey,hlk,hv,hat,hrun,hrg,hlt,hgr,hsz,hen⟩
 ·simp [execOp,hop,hit,hrun,Result.andThen]
  refine hK' _ _ (hDone fun key => ?_)
  cases e : lf key
  ·rfl
  ·have := hn key e
   obtain ⟨kl,hkl⟩ := hD.key key this
   rw [hl key kl hkl,hl0] at e; cases e
 ·have hne := hn key (by rw [hl key kl hkey]; exact hlk)
  obtain ⟨u,hu⟩ := Option.ne_none_iff_exists'.1 hne
  have huv : v = u := by
   have := hD.val key kl u hkey hu .nil
   rw [hat] at this
   unfold tokR at hv; cases hv
   cases this; rfl
  subst huv
  obtain ⟨x,rfl⟩ := invK key hne
  obtain ⟨c,rfl⟩ := invV _ v hu
  simp [execOp,hop,hit,hrun,Result.andThen]
  refine hK' _ _ (hMore x c w' cnt' (fun z => open Classical in if z = mkK x then false else lf z) (by rw [hl _ kl hkey]; exact hlk) hu (by simp) (fun y hy => by simp [hy]) ⟨D,_,hrg,hD,fun key2 kl2 hk2 => ?_,fun key2 h2 => ?_,fun kl2 hk2 => ?_⟩ hlt hgr hsz hen)
  ·by_cases e : key2 = mkK x
   ·subst e
    rw [hkey] at hk2; cases hk2
    simp [WideAt.sameKey_self (K.key hkey)]
   ·have hne2 : kl2 ≠ kl := fun e2 => e (K.inj (hk2 ▸ congrArg some e2) hkey)
    simp [e,hl key2 kl2 hk2,Maps.sameKey_ne hne2]
  ·by_cases e : key2 = mkK x
   ·simp [e] at h2
   ·simp [e] at h2; exact hn key2 h2
  ·simp at hk2; exact hk kl2 hk2.1
end
end Go.Proofs.YtbagikgpgdlkcaaGreatDoor
namespace Go.Proofs.YtbagikgpgdlkcaaGreatDoor
open Go.RowKit Tvf
abbrev Pt := Nat × Nat
def ptOK (p : Pt) : Bool := coordB p.1 && coordB p.2
def pt64 (p : Pt) : Prop := p.1 < 2 ^ 64 ∧ p.2 < 2 ^ 64
def PCells (w : World) (ad : Option Addr) (l : List Pt) : Prop :=
 0 < l.length → ∃ b off : Nat,ad = some ⟨b,off,none⟩ ∧ b < w.heap.size ∧ ∀ i,i < l.length → w.cell? ⟨b,off + i * 2,none⟩ = some (.float .f64 (l.getD i (0,0)).1) ∧ w.cell? ⟨b,off + i * 2 + 1,none⟩ = some (.float .f64 (l.getD i (0,0)).2)
theorem PCells.below {w w' : World} {ad : Option Addr} {l : List Pt} (h : PCells w ad l) (hb : Below w.heap.size w w') : PCells w' ad l := by
 intro h0
 obtain ⟨b,off,e,hlt,hc⟩ := h h0
 exact ⟨b,off,e,Nat.lt_of_lt_of_le hlt hb.size,fun i hi => ⟨by rw [hb.cell (p := ⟨b,off + i * 2,none⟩) hlt]; exact (hc i hi).1,by rw [hb.cell (p := ⟨b,off + i * 2 + 1,none⟩) hlt]; exact (hc i hi).2⟩⟩
theorem getD_memP {l : List Pt} {k : Nat} (h : k < l.length) : l.getD k (0,0) ∈ l := by
 rw [List.getD_eq_getElem?_getD,List.getElem?_eq_getElem h]; exact List.getElem_mem h
theorem take_snocP (l : List Pt) (k : Nat) (h : k < l.length) : l.take (k + 1) = l.take k ++ [l.getD k (0,0)] := by
 rw [List.take_succ_eq_append_getElem h,List.getD_eq_getElem?_getD,List.getElem?_eq_getElem h]; rfl
theorem orient_may (l : List Pt) (ad : Option Addr) (cap : Nat) (h64 : ∀ p,p ∈ l → pt64 p) (hlen : l.length ≤ 4294967296) (w : World) (hc : PCells w ad l) :
  Calls Tryz.prog 101 #[.slice ad l.length cap] w fun r w' => r = .returned (.bool (l.all ptOK)) ∧ Below w.heap.size w w' := by
 have HC := Lib.hid hc
 have H64 := Lib.hid h64
 clear hc h64
 go_enter Tryz.func101,Tryz.ntmps101
 go_wp2
 go_loopw [7] (fun i wr => ∃ n : Nat,n ≤ l.length ∧ i = .int .i64 n ∧ Hid ((l.take n).all ptOK = true) ∧ Below w.heap.size w wr) (fun i _ => l.length - (intOf i).toNat)
 case atStart => exact ⟨0,Nat.zero_le _,rfl,by simp [Hid],Below.refl _ _⟩
 case round =>
  obtain ⟨n,hn,rfl,HO,hbw⟩ := hrel
  by_cases hlt : n < l.length
  ·obtain ⟨bb,off,rfl,hbb,hc⟩ := HC.out (by omega)
   have hcx : wr.cell? ⟨bb,off + n * 2,none⟩ = some (.float .f64 (l.getD n (0,0)).1) := (hbw.cell (p := ⟨bb,off + n * 2,none⟩) hbb).trans (hc n hlt).1
   have hcy : wr.cell? ⟨bb,off + n * 2 + 1,none⟩ = some (.float .f64 (l.getD n (0,0)).2) := (hbw.cell (p := ⟨bb,off + n * 2 + 1,none⟩) hbb).trans (hc n hlt).2
   clear hc
   have hm := getD_memP hlt
   have h64p := H64.out _ hm
   have HT := Lib.hid (take_snocP l n hlt)
   have HALL : Hid (ptOK (l.getD n (0,0)) = false → l.all ptOK = false) := fun h => by
    rw [List.all_eq_false]; exact ⟨_,hm,by rw [h]; simp⟩
   have HXX := Lib.hid h64p.1
   have HYY := Lib.hid h64p.2
   have HPT : Hid (∀ a b,l.getD n (0,0) = (a,b) → ptOK (l.getD n (0,0)) = (coordB a && coordB b)) := fun a b h => by rw [h]; rfl
   clear hm h64p
   generalize l.getD n (0,0) = p at *
   obtain ⟨x,y⟩ := p
   dsimp only at hcx hcy HXX HYY
   have HP2 := Lib.hid (HPT.out x y rfl)
   clear HPT
   have HCX := Lib.hid (orient_coordinate x HXX.out)
   have HCY := Lib.hid (orient_coordinate y HYY.out)
   have s0 := hbw.size
   cases hx : coordB x
   ·have HF : Hid (l.all ptOK = false) := HALL.out (by rw [HP2.out,hx]; rfl)
    rw [hx] at HCX
    go_wp2_with (go_at_call 132; (first | (with_reducible refine (HCX.out _).mono ?_) | (with_reducible refine (HCY.out _).mono ?_)); rintro r w1 ⟨rfl,rfl⟩)
    go_ret
    exact ⟨by rw [HF.out]; rfl,hbw.alloc s0 _⟩
   ·rw [hx] at HCX
    cases hy : coordB y
    ·have HF : Hid (l.all ptOK = false) := HALL.out (by rw [HP2.out,hx,hy]; rfl)
     rw [hy] at HCY
     go_wp2_with (go_at_call 132; (first | (with_reducible refine (HCX.out _).mono ?_) | (with_reducible refine (HCY.out _).mono ?_)); rintro r w1 ⟨rfl,rfl⟩)
     go_ret
     exact ⟨by rw [HF.out]; rfl,hbw.alloc s0 _⟩
    ·have HF : Hid ((l.take (n + 1)).all ptOK = true) := by
      unfold Hid
      rw [HT.out,List.all_append,HO.out]
      simp only [List.all_cons,List.all_nil,Bool.and_true,Bool.true_and]
      rw [HP2.out,hx,hy]; rfl
     rw [hy] at HCY
     go_wp2_with (go_at_call 132; (first | (with_reducible refine (HCX.out _).mono ?_) | (with_reducible refine (HCY.out _).mono ?_)); rintro r w1 ⟨rfl,rfl⟩)
     go_roundw
     case rel => exact ⟨n + 1,by omega,by go_num,HF,hbw.alloc s0 _⟩
     case measure => simp [intOf]; omega
  ·have hnl : n = l.length := by omega
   subst hnl
   have HF : Hid (l.all ptOK = true) := by have := HO.out; rw [List.take_of_length_le (Nat.le_refl _)] at this; exact this
   go_wp2
   go_ret
   exact ⟨by rw [HF.out]; rfl,hbw⟩
theorem tri1 (P Q X Y : Int) : ((P - Q) - (X - Y)).natAbs ≤ (X - P).natAbs + (Y - Q).natAbs := by omega
theorem tri2 (P X : Int) : P.natAbs ≤ X.natAbs + (X - P).natAbs := by omega
theorem lin1 (a b p q x y e : Nat) (h1 : 2 ^ 51 * a ≤ p) (h2 : 2 ^ 51 * b ≤ q) (he : e ≤ a + b) (hp : p ≤ x + a) (hq : q ≤ y + b) : 2 ^ 51 * e ≤ p + q ∧ 2 ^ 51 * (p + q) ≤ 2 ^ 51 * (x + y) + (p + q) := by omega
theorem lin2 (A T e S M0 M d : Nat) (z : Nat) (hE : 2 ^ 51 * e ≤ T) (hTA : 2 ^ 51 * T ≤ 2 ^ 51 * A + T) (h4 : 2 ^ 53 * A ≤ 2 ^ 53 * S + A) (h5 : S = M0 * 2 ^ 50) (h6 : 2 ^ 53 * M0 ≤ 2 ^ 53 * M + M0) (h7 : M < d) (h3 : 2 ^ 53 * d ≤ 2 ^ 53 * z + z) : e < z := by omega
theorem fast_sign (P Q X Y D : Int) (S M0 M : Nat) (h1 : 2 ^ 51 * (X - P).natAbs ≤ P.natAbs) (h2 : 2 ^ 51 * (Y - Q).natAbs ≤ Q.natAbs)
  (h3 : 2 ^ 53 * (D - (X - Y)).natAbs ≤ (X - Y).natAbs) (h4 : 2 ^ 53 * ((S : Int) - (X.natAbs + Y.natAbs : Nat)).natAbs ≤ X.natAbs + Y.natAbs) (h5 : S = M0 * 2 ^ 50) (h6 : 2 ^ 53 * ((M : Int) - M0).natAbs ≤ M0) (h7 : M < D.natAbs) :
  (0 < D → 0 < P - Q) ∧ (D < 0 → P - Q < 0) ∧ D ≠ 0 := by
 obtain ⟨e1,e2⟩ := lin1 _ _ _ _ _ _ _ h1 h2 (tri1 P Q X Y) (tri2 P X) (tri2 Q Y)
 generalize P.natAbs + Q.natAbs = T at *
 generalize X.natAbs + Y.natAbs = A at *
 have h4' : 2 ^ 53 * A ≤ 2 ^ 53 * S + A := by omega
 have h6' : 2 ^ 53 * M0 ≤ 2 ^ 53 * M + M0 := by omega
 have hD0 : D ≠ 0 := by omega
 clear h1 h2 h4 h6
 have h3' : 2 ^ 53 * D.natAbs ≤ 2 ^ 53 * (X - Y).natAbs + (X - Y).natAbs := by clear e1 e2 h4' h6'; omega
 have hlt := lin2 A T _ S M0 M D.natAbs (X - Y).natAbs e1 e2 h4' h5 h6' h7 h3'
 clear e1 e2 h4' h5 h6' h7 h3'
 generalize X - Y = Z at *
 generalize P - Q = W at *
 refine ⟨fun h => ?_,fun h => ?_,hD0⟩ <;> omega
theorem prod_near (a b p q X : Int) (hp : p = rn a) (hq : q = rn b) (hX : X = rn (p * q)) : 2 ^ 51 * (X - a * b).natAbs ≤ (a * b).natAbs := by
 have h1 := rest_small a
 have h2 := rest_small b
 have h3 := rest_small (p * q)
 rw [← hp] at h1
 rw [← hq] at h2
 rw [← hX] at h3
 clear hp hq hX
 have e1 : p * q - a * b = p * (q - b) + (p - a) * b := by grind
 have n1 : (p * (q - b)).natAbs = p.natAbs * (b - q).natAbs := by rw [Int.natAbs_mul,show (q - b).natAbs = (b - q).natAbs by omega]
 have n2 : ((p - a) * b).natAbs = (a - p).natAbs * b.natAbs := by rw [Int.natAbs_mul,show (p - a).natAbs = (a - p).natAbs by omega]
 have hpa : p.natAbs ≤ a.natAbs + (a - p).natAbs := by omega
 have hqb : q.natAbs ≤ b.natAbs + (b - q).natAbs := by omega
 have ea : (a * b).natAbs = a.natAbs * b.natAbs := Int.natAbs_mul a b
 have d1 : (p * q - a * b).natAbs ≤ p.natAbs * (b - q).natAbs + (a - p).natAbs * b.natAbs := by
  rw [e1,← n1,← n2]; exact Int.natAbs_add_le _ _
 have d2 : (X - a * b).natAbs ≤ (p * q - X).natAbs + (p * q - a * b).natAbs := by omega
 have d3 : (p * q).natAbs ≤ (a * b).natAbs + (p * q - a * b).natAbs := by omega
 rw [ea] at d3 ⊢
 generalize (X - a * b).natAbs = E at *
 generalize (p * q - a * b).natAbs = F at *
 generalize (p * q - X).natAbs = G at *
 generalize (p * q).natAbs = R at *
 generalize (a - p).natAbs = da at *
 generalize (b - q).natAbs = db at *
 generalize a.natAbs = A at *
 generalize b.natAbs = B at *
 generalize p.natAbs = Pp at *
 clear n1 n2 e1 ea hqb
 have f1 : Pp * db ≤ (A + da) * db := Nat.mul_le_mul_right _ hpa
 have f2 : 2 ^ 53 * (A * db) ≤ A * B := by
  rw [Nat.mul_left_comm]; exact Nat.mul_le_mul_left _ h2
 have f3 : 2 ^ 53 * (da * B) ≤ A * B := by
  rw [← Nat.mul_assoc]; exact Nat.mul_le_mul_right _ h1
 have f4 : 2 ^ 53 * (da * db) ≤ A * db := by
  rw [← Nat.mul_assoc]; exact Nat.mul_le_mul_right _ h1
 rw [Nat.add_mul] at f1
 generalize A * db = u1 at *
 generalize da * B = u2 at *
 generalize da * db = u3 at *
 generalize A * B = u4 at *
 generalize Pp * db = u5 at *
 omega
def det (a b c : Pt) : Int := (fval b.1 - fval a.1) * (fval c.2 - fval a.2) - (fval b.2 - fval a.2) * (fval c.1 - fval a.1)
def fX (a b c : Pt) : Nat := fmul (fsub b.1 a.1) (fsub c.2 a.2)
def fY (a b c : Pt) : Nat := fmul (fsub b.2 a.2) (fsub c.1 a.1)
def fD (a b c : Pt) : Nat := fsub (fX a b c) (fY a b c)
def fS (a b c : Pt) : Nat := fadd (fX a b c % 2 ^ 63) (fY a b c % 2 ^ 63)
def fM (a b c : Pt) : Nat := fmul 4382002437431492608 (fS a b c)
def fastOK (a b c : Pt) : Bool := fgt (fD a b c % 2 ^ 63) (fM a b c)
structure CoordF (x : Nat) : Prop where
 f : fin x
 le : (fval x).natAbs ≤ 2 ^ (unitE + 100)
 dv : (2 : Int) ^ gridE ∣ fval x
theorem coordF {x : Nat} (h64 : x < 2 ^ 64) (h : coordB x = true) : CoordF x := by
 obtain ⟨h1,h2,h3,_⟩ := coord_tame h64 h
 exact ⟨h1,h2,h3⟩
structure DiffF (x y : Nat) : Prop where
 f : fin (fsub x y)
 v : fval (fsub x y) = rn (fval x - fval y)
 le : (fval (fsub x y)).natAbs ≤ 2 ^ (unitE + 101)
 dv : (2 : Int) ^ gridE ∣ fval (fsub x y)
theorem diffF {x y : Nat} (hx : CoordF x) (hy : CoordF y) : DiffF x y := by
 obtain ⟨c1,c2,c3⟩ := sub_step (k := unitE + 101) hx.f hy.f hx.le hy.le (by decide) (by decide) (by decide)
 exact ⟨c1,c2,c3,by rw [c2]; exact rn_dvd (Int.dvd_sub hx.dv hy.dv)⟩
def grid2 : Nat := 874
theorem grid2_eq : gridE + gridE = unitE + grid2 := rfl
theorem prodF {x y z w : Nat} (h1 : DiffF x y) (h2 : DiffF z w) : fin (fmul (fsub x y) (fsub z w)) ∧ fval (fmul (fsub x y) (fsub z w)) * 2 ^ unitE = rn (fval (fsub x y) * fval (fsub z w)) ∧
  (fval (fmul (fsub x y) (fsub z w))).natAbs ≤ 2 ^ (unitE + 202) ∧ (2 : Int) ^ grid2 ∣ fval (fmul (fsub x y) (fsub z w)) := by
 obtain ⟨c1,e1⟩ := h1.dv
 obtain ⟨c2,e2⟩ := h2.dv
 have hz : fval (fsub x y) * fval (fsub z w) = (c1 * c2 * 2 ^ grid2) * 2 ^ unitE := by
  rw [e1,e2,Int.mul_assoc (c1 * c2),← Int.pow_add,Nat.add_comm grid2,← grid2_eq,Int.pow_add]; grind
 have hb : (c1 * c2 * 2 ^ grid2).natAbs ≤ 2 ^ (unitE + 202) := by
  refine Nat.le_of_mul_le_mul_right ?_ (two_pow_pos unitE)
  have := congrArg Int.natAbs hz
  rw [Int.natAbs_mul _ (2 ^ unitE),natAbs_two_pow] at this
  rw [← this]
  refine Nat.le_trans (mul_natAbs_le h1.le h2.le) ?_
  rw [← Nat.pow_add,← Nat.pow_add]; exact Nat.pow_le_pow_right (by decide) (by decide)
 obtain ⟨m1,m2⟩ := fmul_val h1.f h2.f hz (inReach_le hb (by decide))
 refine ⟨m1,by rw [m2,hz]; exact (rn_scale _ _).symm,by rw [m2]; exact rn_le_pow hb,?_⟩
 rw [m2]
 exact rn_dvd ⟨c1 * c2,Int.mul_comm _ _⟩
theorem fval_doubt : ∃ k,k + 50 = unitE ∧ fval 4382002437431492608 = 2 ^ k :=
 ⟨51 + 973,rfl,fval_pow (F := 973) (by unfold fin; omega) (by omega) (by omega) (by omega) (by omega) rfl⟩
structure FastF (a b c : Pt) : Prop where
 ga1 : fin a.1
 ga2 : fin a.2
 gb1 : fin b.1
 gb2 : fin b.2
 gc1 : fin c.1
 gc2 : fin c.2
 f1 : fin (fsub b.1 a.1)
 f2 : fin (fsub c.2 a.2)
 f3 : fin (fsub b.2 a.2)
 f4 : fin (fsub c.1 a.1)
 fx : fin (fX a b c)
 fy : fin (fY a b c)
 fd : fin (fD a b c)
 fs : fin (fS a b c)
 fm : fin (fM a b c)
 sgn : fastOK a b c = true → sgnI (fval (fD a b c)) = sgnI (det a b c)
theorem fast_facts {a b c : Pt} (ha : pt64 a) (hb : pt64 b) (hc : pt64 c) (oa : ptOK a = true) (ob : ptOK b = true) (oc : ptOK c = true) : FastF a b c := by
 unfold ptOK at oa ob oc
 rw [Bool.and_eq_true] at oa ob oc
 have a1 := coordF ha.1 oa.1
 have a2 := coordF ha.2 oa.2
 have b1 := coordF hb.1 ob.1
 have b2 := coordF hb.2 ob.2
 have c1 := coordF hc.1 oc.1
 have c2 := coordF hc.2 oc.2
 have d1 := diffF b1 a1
 have d2 := diffF c2 a2
 have d3 := diffF b2 a2
 have d4 := diffF c1 a1
 obtain ⟨x1,x2,x3,x4⟩ := prodF d1 d2
 obtain ⟨y1,y2,y3,y4⟩ := prodF d3 d4
 have hXl : (fval (fX a b c)).natAbs ≤ 2 ^ (unitE + 202) := x3
 have hYl : (fval (fY a b c)).natAbs ≤ 2 ^ (unitE + 202) := y3
 have nx := prod_near (fval b.1 - fval a.1) (fval c.2 - fval a.2) _ _ (fval (fX a b c) * 2 ^ unitE) d1.v d2.v x2
 have ny := prod_near (fval b.2 - fval a.2) (fval c.1 - fval a.1) _ _ (fval (fY a b c) * 2 ^ unitE) d3.v d4.v y2
 obtain ⟨e1,e2,e3⟩ := sub_step (k := unitE + 203) x1 y1 x3 y3 (by decide) (by decide) (by decide)
 have ax : fval (fX a b c % 2 ^ 63) = ((fval (fX a b c)).natAbs : Int) := fval_abs _
 have ay : fval (fY a b c % 2 ^ 63) = ((fval (fY a b c)).natAbs : Int) := fval_abs _
 obtain ⟨s1,s2,s3⟩ := add_step (k := unitE + 203) (fin_abs x1) (fin_abs y1) (by rw [fval_abs,Int.natAbs_natCast]; exact x3) (by rw [fval_abs,Int.natAbs_natCast]; exact y3) (by decide) (by decide) (by decide)
 have s2' : fval (fS a b c) = rn (((fval (fX a b c)).natAbs + (fval (fY a b c)).natAbs : Nat) : Int) := by
  have : fval (fS a b c) = rn (fval (fX a b c % 2 ^ 63) + fval (fY a b c % 2 ^ 63)) := s2
  rw [this,ax,ay]; rfl
 have hSd : (2 : Int) ^ 50 ∣ fval (fS a b c) := by
  rw [s2']
  refine rn_dvd (dvd_mono (show 50 ≤ grid2 by decide) ?_)
  rw [Int.natCast_add]
  exact Int.dvd_add (Int.dvd_natAbs.2 x4) (Int.dvd_natAbs.2 y4)
 obtain ⟨M0,hM0⟩ := hSd
 have hS0 : 0 ≤ fval (fS a b c) := by rw [s2']; exact rn_nonneg (by omega)
 have hM00 : 0 ≤ M0 := by omega
 obtain ⟨m0,rfl⟩ := Int.eq_ofNat_of_zero_le hM00
 obtain ⟨k,hk,hkv⟩ := fval_doubt
 have hmz : fval 4382002437431492608 * fval (fS a b c) = (m0 : Int) * 2 ^ unitE := by
  rw [hkv,hM0,← Int.mul_assoc,← Int.pow_add,hk,Int.mul_comm]
 have hml : (m0 : Int).natAbs ≤ 2 ^ (unitE + 203) := by
  have : (fval (fS a b c)).natAbs ≤ 2 ^ (unitE + 203) := s3
  rw [hM0] at this
  refine Nat.le_trans ?_ this
  rw [Int.natAbs_mul,natAbs_two_pow]
  exact Nat.le_mul_of_pos_left _ (two_pow_pos 50)
 obtain ⟨q1,q2⟩ := fmul_val (by unfold fin; omega) s1 hmz (inReach_le hml (by decide))
 refine ⟨a1.f,a2.f,b1.f,b2.f,c1.f,c2.f,d1.f,d2.f,d3.f,d4.f,x1,y1,e1,s1,q1,?_⟩
 intro hok
 unfold fastOK at hok
 rw [fgt_val (x := fD a b c % 2 ^ 63) (y := fM a b c) (fin_abs (show fin (fD a b c) from e1)) (show fin (fM a b c) from q1),fval_abs] at hok
 have hlt := of_decide_eq_true hok
 have q2' : fval (fM a b c) = rn m0 := q2
 have e2' : fval (fD a b c) = rn (fval (fX a b c) - fval (fY a b c)) := e2
 have hmr : 0 ≤ rn (m0 : Int) := rn_nonneg (by omega)
 obtain ⟨mr,hmr2⟩ := Int.eq_ofNat_of_zero_le hmr
 obtain ⟨sr,hsr⟩ := Int.eq_ofNat_of_zero_le hS0
 have hU : 0 < 2 ^ unitE := two_pow_pos unitE
 have cast : ((2 ^ unitE : Nat) : Int) = (2 : Int) ^ unitE := by simp
 have k3 := rest_small (fval (fX a b c) - fval (fY a b c))
 have k4 := rest_small (((fval (fX a b c)).natAbs + (fval (fY a b c)).natAbs : Nat) : Int)
 have k6 := rest_small (m0 : Int)
 rw [← e2'] at k3
 rw [← s2', hsr] at k4
 rw [hmr2] at k6
 have habs : ∀ z : Int,(z * 2 ^ unitE).natAbs = z.natAbs * 2 ^ unitE := fun z => by rw [Int.natAbs_mul,natAbs_two_pow]
 have res := fast_sign ((fval b.1 - fval a.1) * (fval c.2 - fval a.2)) ((fval b.2 - fval a.2) * (fval c.1 - fval a.1)) (fval (fX a b c) * 2 ^ unitE) (fval (fY a b c) * 2 ^ unitE) (fval (fD a b c) * 2 ^ unitE) (sr * 2 ^ unitE) (m0 * 2 ^ unitE) (mr * 2 ^ unitE) nx ny
  (by
   rw [← Int.sub_mul,← Int.sub_mul,habs,habs,← Nat.mul_assoc]
   refine Nat.mul_le_mul_right _ ?_
   clear nx ny hXl hYl x3 y3 e3 s3 hml k4 k6
   generalize fval (fX a b c) - fval (fY a b c) = Z at *
   generalize fval (fD a b c) = D at *
   omega)
  (by
   rw [habs,habs,← Nat.add_mul,Int.natCast_mul,Int.natCast_mul,← Int.sub_mul,cast,habs,← Nat.mul_assoc]
   refine Nat.mul_le_mul_right _ ?_
   clear nx ny hXl hYl x3 y3 e3 s3 hml k3 k6
   generalize (fval (fX a b c)).natAbs + (fval (fY a b c)).natAbs = Z at *
   omega)
  (by
   have : sr = m0 * 2 ^ 50 := by
    rw [hM0] at hsr
    omega
   rw [this,Nat.mul_assoc,Nat.mul_assoc,Nat.mul_comm (2 ^ 50)])
  (by
   rw [Int.natCast_mul,Int.natCast_mul,← Int.sub_mul,cast,habs,← Nat.mul_assoc]
   refine Nat.mul_le_mul_right _ ?_
   clear nx ny hXl hYl x3 y3 e3 s3 hml k3 k4
   omega)
  (by
   rw [habs]
   refine Nat.mul_lt_mul_of_pos_right ?_ hU
   rw [q2', hmr2] at hlt
   omega)
 have hdd : (fval b.1 - fval a.1) * (fval c.2 - fval a.2) - (fval b.2 - fval a.2) * (fval c.1 - fval a.1) = det a b c := rfl
 rw [hdd] at res
 rw [← sgnI_mul (z := fval (fD a b c)) (k := unitE)]
 clear nx ny hXl hYl x3 y3 e3 s3 hml k3 k4 k6
 unfold sgnI
 generalize fval (fD a b c) * 2 ^ unitE = Z at *
 generalize det a b c = W at *
 obtain ⟨r1,r2,r3⟩ := res
 by_cases h : Z < 0
 ·rw [if_pos h,if_pos (r2 h)]
 ·have h2 : 0 < Z := by omega
  have := r1 h2
  rw [if_neg h,if_pos h2,if_neg (by omega),if_pos this]
theorem osign_walk (x : Nat) (hx : fin x) (w : World) :
  Calls Tryz.prog 131 #[.float .f64 x] w fun r w' => r = .returned (.int .i64 (sgnI (fval x))) ∧ w = w' := by
 have h0 : fin 0 := by unfold fin; omega
 have hg : fgt x 0 = decide (0 < fval x) := fgt_val hx h0
 have hl : flt x 0 = decide (fval x < 0) := flt_val hx h0
 unfold sgnI
 by_cases h1 : fval x < 0
 ·rw [if_pos h1]
  rw [show decide (0 < fval x) = false by simp; omega] at hg
  rw [show decide (fval x < 0) = true by simpa using h1] at hl
  clear h1
  go_enter Tryz.func131,Tryz.ntmps131
  go_wp2
  go_ret
  exact ⟨rfl,rfl⟩
 ·rw [if_neg h1]
  rw [show decide (fval x < 0) = false by simpa using h1] at hl
  by_cases h2 : 0 < fval x
  ·rw [if_pos h2]
   rw [show decide (0 < fval x) = true by simpa using h2] at hg
   clear h1 h2
   go_enter Tryz.func131,Tryz.ntmps131
   go_wp2
   go_ret
   exact ⟨rfl,rfl⟩
  ·rw [if_neg h2]
   rw [show decide (0 < fval x) = false by simpa using h2] at hg
   clear h1 h2
   go_enter Tryz.func131,Tryz.ntmps131
   go_wp2
   go_ret
   exact ⟨rfl,rfl⟩
def V (p : Pt) : Value := .agg #[.float .f64 p.1,.float .f64 p.2]
theorem cell_alloc4 (w : World) (a0 a1 b0 b1 c0 c1 : Value) (T : TypeId) (D : Obj) (w1 : World)
  (hb : Below ((((w.alloc (.cells #[a0,a1] T)).alloc (.cells #[b0,b1] T)).alloc (.cells #[c0,c1] T)).alloc D).heap.size ((((w.alloc (.cells #[a0,a1] T)).alloc (.cells #[b0,b1] T)).alloc (.cells #[c0,c1] T)).alloc D) w1) :
  w1.cell? ⟨w.heap.size,0,none⟩ = some a0 ∧ w1.cell? ⟨w.heap.size,1,none⟩ = some a1 ∧ w1.cell? ⟨w.heap.size + 1,0,none⟩ = some b0 ∧ w1.cell? ⟨w.heap.size + 1,1,none⟩ = some b1 ∧ w1.cell? ⟨w.heap.size + 1 + 1,0,none⟩ = some c0 ∧ w1.cell? ⟨w.heap.size + 1 + 1,1,none⟩ = some c1 ∧ Below w.heap.size w w1 := by
 have hB : Below w.heap.size w ((((w.alloc (.cells #[a0,a1] T)).alloc (.cells #[b0,b1] T)).alloc (.cells #[c0,c1] T)).alloc D) := ((((Below.refl _ _).alloc (Nat.le_refl _) _).alloc (by simp) _).alloc (by simp <;> omega) _).alloc (by simp <;> omega) _
 refine ⟨?_,?_,?_,?_,?_,?_,hB.trans (hb.mono (by simp <;> omega))⟩
 ·rw [hb.cell (p := ⟨w.heap.size,0,none⟩) (by simp <;> omega),World.cell?_alloc_past _ _ _ (by simp <;> omega),World.cell?_alloc_past _ _ _ (by simp <;> omega),World.cell?_alloc_past _ _ _ (by simp),World.cell?_alloc_at _ _ _ _ rfl]; rfl
 ·rw [hb.cell (p := ⟨w.heap.size,1,none⟩) (by simp <;> omega),World.cell?_alloc_past _ _ _ (by simp <;> omega),World.cell?_alloc_past _ _ _ (by simp <;> omega),World.cell?_alloc_past _ _ _ (by simp),World.cell?_alloc_at _ _ _ _ rfl]; rfl
 ·rw [hb.cell (p := ⟨w.heap.size + 1,0,none⟩) (by simp <;> omega),World.cell?_alloc_past _ _ _ (by simp <;> omega),World.cell?_alloc_past _ _ _ (by simp <;> omega),World.cell?_alloc_at _ _ _ _ (by simp)]; rfl
 ·rw [hb.cell (p := ⟨w.heap.size + 1,1,none⟩) (by simp <;> omega),World.cell?_alloc_past _ _ _ (by simp <;> omega),World.cell?_alloc_past _ _ _ (by simp <;> omega),World.cell?_alloc_at _ _ _ _ (by simp)]; rfl
 ·rw [hb.cell (p := ⟨w.heap.size + 1 + 1,0,none⟩) (by simp <;> omega),World.cell?_alloc_past _ _ _ (by simp <;> omega),World.cell?_alloc_at _ _ _ _ (by simp)]; rfl
 ·rw [hb.cell (p := ⟨w.heap.size + 1 + 1,1,none⟩) (by simp <;> omega),World.cell?_alloc_past _ _ _ (by simp <;> omega),World.cell?_alloc_at _ _ _ _ (by simp)]; rfl
theorem heap_new3 (w : World) (A B C D : Obj) : ((((w.alloc A).alloc B).alloc C).alloc D).heap[w.heap.size + 1 + 1 + 1]? = some D := by
 have h := heap_alloc_new (((w.alloc A).alloc B).alloc C) D
 have e : (((w.alloc A).alloc B).alloc C).heap.size = w.heap.size + 1 + 1 + 1 := by simp
 rw [e] at h; exact h
theorem may3 (a b c : Pt) (h64 : ∀ p,p ∈ [a,b,c] → pt64 p) (ok : Bool) (h : [a,b,c].all ptOK = ok) (w : World) (blk : Nat)
  (hb : w.heap[blk]? = some (.cells #[.float .f64 a.1,.float .f64 a.2,.float .f64 b.1,.float .f64 b.2,.float .f64 c.1,.float .f64 c.2] 68 (0,0))) :
  Calls Tryz.prog 101 #[.slice (some ⟨blk,0,none⟩) 3 3] w fun r w' => r = .returned (.bool ok) ∧ Below w.heap.size w w' := by
 have hlt : blk < w.heap.size := by
  apply Classical.byContradiction; intro hn
  rw [Array.getElem?_eq_none (by omega)] at hb; cases hb
 have := orient_may [a,b,c] (some ⟨blk,0,none⟩) 3 h64 (by simp) w (by
  intro _
  refine ⟨blk,0,rfl,hlt,?_⟩
  intro i hi
  have hi3 : i = 0 ∨ i = 1 ∨ i = 2 := by simp at hi; omega
  rcases hi3 with rfl | rfl | rfl <;> exact ⟨by simp [World.cell?,hb],by simp [World.cell?,hb]⟩)
 rw [h] at this
 exact this
theorem fast_no (ax ay bx bY cx cy : Nat) (h64 : ∀ p,p ∈ [(ax,ay),(bx,bY),(cx,cy)] → pt64 p) (h : [(ax,ay),(bx,bY),(cx,cy)].all ptOK = false) (w : World) :
  Calls Tryz.prog 100 #[V (ax,ay),V (bx,bY),V (cx,cy)] w fun r w' => r = .returned (.tuple #[.int .i64 0,.bool false]) ∧ Below w.heap.size w w' := by
 have HM := Lib.hid (may3 (ax,ay) (bx,bY) (cx,cy) h64 false h)
 clear h64 h
 unfold V
 go_enter Tryz.func100,Tryz.ntmps100
 go_wp2_with (go_at_call 101; refine (HM.out _ _ (heap_new3 _ _ _ _ _)).mono ?_; rintro r w1 ⟨rfl,hb1⟩; obtain ⟨_,_,_,_,_,_,hbw⟩ := cell_alloc4 _ _ _ _ _ _ _ _ _ _ hb1; clear hb1)
 go_ret2
 exact ⟨rfl,hbw⟩
theorem fast_yes (ax ay bx bY cx cy : Nat) (h64 : ∀ p,p ∈ [(ax,ay),(bx,bY),(cx,cy)] → pt64 p) (h : [(ax,ay),(bx,bY),(cx,cy)].all ptOK = true) (hF : FastF (ax,ay) (bx,bY) (cx,cy)) (w : World) :
  Calls Tryz.prog 100 #[V (ax,ay),V (bx,bY),V (cx,cy)] w fun r w' => r = .returned (.tuple #[.int .i64 (if fastOK (ax,ay) (bx,bY) (cx,cy) then sgnI (fval (fD (ax,ay) (bx,bY) (cx,cy))) else 0),.bool (fastOK (ax,ay) (bx,bY) (cx,cy))]) ∧ Below w.heap.size w w' := by
 have HM := Lib.hid (may3 (ax,ay) (bx,bY) (cx,cy) h64 true h)
 obtain ⟨ga1,ga2,gb1,gb2,gc1,gc2,f1,f2,f3,f4,fx,fy,fd,fs,fm,fsg⟩ := hF
 clear fsg
 dsimp only at ga1 ga2 gb1 gb2 gc1 gc2
 have HSG := Lib.hid (osign_walk (fD (ax,ay) (bx,bY) (cx,cy)) fd)
 have hdt : fin 4382002437431492608 := by unfold fin; omega
 have HX := Lib.hid fx.1
 have HY := Lib.hid fy.1
 have HD := Lib.hid fd.1
 have fxa := fin_abs fx
 have fya := fin_abs fy
 clear h64 h fd fm
 unfold fastOK
 unfold fD fS fX fY at *
 unfold fM fS fX fY at *
 dsimp only at *
 cases hk : fgt (fsub (fmul (fsub bx ax) (fsub cy ay)) (fmul (fsub bY ay) (fsub cx ax)) % 2 ^ 63) (fmul 4382002437431492608 (fadd (fmul (fsub bx ax) (fsub cy ay) % 2 ^ 63) (fmul (fsub bY ay) (fsub cx ax) % 2 ^ 63)))
 all_goals
  unfold V
  go_enter Tryz.func100,Tryz.ntmps100
  go_wp2_with (first
   |(go_at_call 101; refine (HM.out _ _ (heap_new3 _ _ _ _ _)).mono ?_; rintro r w1 ⟨rfl,hb1⟩; obtain ⟨k1,k2,k3,k4,k5,k6,hbw⟩ := cell_alloc4 _ _ _ _ _ _ _ _ _ _ hb1; clear hb1)
   |(go_at_call 130; (first | (with_reducible refine (abs_any _ HX.out _).mono ?_) | (with_reducible refine (abs_any _ HY.out _).mono ?_) | (with_reducible refine (abs_any _ HD.out _).mono ?_)); rintro r w2 ⟨rfl,rfl⟩)
   |(go_at_call 131; refine (HSG.out _).mono ?_; rintro r w2 ⟨rfl,rfl⟩))
  go_ret2
  exact ⟨rfl,hbw⟩
theorem below_cells6 {w1 w2 : World} {B : Nat} {a0 a1 b0 b1 c0 c1 : Value} (hb : Below w1.heap.size w1 w2) (hB : B + 3 ≤ w1.heap.size)
  (h : w1.cell? ⟨B,0,none⟩ = some a0 ∧ w1.cell? ⟨B,1,none⟩ = some a1 ∧ w1.cell? ⟨B + 1,0,none⟩ = some b0 ∧ w1.cell? ⟨B + 1,1,none⟩ = some b1 ∧ w1.cell? ⟨B + 1 + 1,0,none⟩ = some c0 ∧ w1.cell? ⟨B + 1 + 1,1,none⟩ = some c1) :
  w2.cell? ⟨B,0,none⟩ = some a0 ∧ w2.cell? ⟨B,1,none⟩ = some a1 ∧ w2.cell? ⟨B + 1,0,none⟩ = some b0 ∧ w2.cell? ⟨B + 1,1,none⟩ = some b1 ∧ w2.cell? ⟨B + 1 + 1,0,none⟩ = some c0 ∧ w2.cell? ⟨B + 1 + 1,1,none⟩ = some c1 := by
 obtain ⟨h1,h2,h3,h4,h5,h6⟩ := h
 refine ⟨?_,?_,?_,?_,?_,?_⟩
 ·rw [hb.cell (p := ⟨B,0,none⟩) (by dsimp only; omega)]; exact h1
 ·rw [hb.cell (p := ⟨B,1,none⟩) (by dsimp only; omega)]; exact h2
 ·rw [hb.cell (p := ⟨B + 1,0,none⟩) (by dsimp only; omega)]; exact h3
 ·rw [hb.cell (p := ⟨B + 1,1,none⟩) (by dsimp only; omega)]; exact h4
 ·rw [hb.cell (p := ⟨B + 1 + 1,0,none⟩) (by dsimp only; omega)]; exact h5
 ·rw [hb.cell (p := ⟨B + 1 + 1,1,none⟩) (by dsimp only; omega)]; exact h6
theorem kept8 {w w1 w2 : World} {a0 a1 b0 b1 c0 c1 : Value} (hb : Below w1.heap.size w1 w2)
  (h : w1.cell? ⟨w.heap.size,0,none⟩ = some a0 ∧ w1.cell? ⟨w.heap.size,1,none⟩ = some a1 ∧ w1.cell? ⟨w.heap.size + 1,0,none⟩ = some b0 ∧ w1.cell? ⟨w.heap.size + 1,1,none⟩ = some b1 ∧ w1.cell? ⟨w.heap.size + 1 + 1,0,none⟩ = some c0 ∧ w1.cell? ⟨w.heap.size + 1 + 1,1,none⟩ = some c1 ∧ w.heap.size + 3 ≤ w1.heap.size ∧ Below w.heap.size w w1) :
  w2.cell? ⟨w.heap.size,0,none⟩ = some a0 ∧ w2.cell? ⟨w.heap.size,1,none⟩ = some a1 ∧ w2.cell? ⟨w.heap.size + 1,0,none⟩ = some b0 ∧ w2.cell? ⟨w.heap.size + 1,1,none⟩ = some b1 ∧ w2.cell? ⟨w.heap.size + 1 + 1,0,none⟩ = some c0 ∧ w2.cell? ⟨w.heap.size + 1 + 1,1,none⟩ = some c1 ∧ w.heap.size + 3 ≤ w2.heap.size ∧ Below w.heap.size w w2 := by
 obtain ⟨h1,h2,h3,h4,h5,h6,h7,h8⟩ := h
 obtain ⟨n1,n2,n3,n4,n5,n6⟩ := below_cells6 hb h7 ⟨h1,h2,h3,h4,h5,h6⟩
 exact ⟨n1,n2,n3,n4,n5,n6,Nat.le_trans h7 hb.size,h8.trans (hb.mono (by omega))⟩
theorem keptDrew {w w1 : World} {a0 a1 b0 b1 c0 c1 : Value}
  (h : w1.cell? ⟨w.heap.size,0,none⟩ = some a0 ∧ w1.cell? ⟨w.heap.size,1,none⟩ = some a1 ∧ w1.cell? ⟨w.heap.size + 1,0,none⟩ = some b0 ∧ w1.cell? ⟨w.heap.size + 1,1,none⟩ = some b1 ∧ w1.cell? ⟨w.heap.size + 1 + 1,0,none⟩ = some c0 ∧ w1.cell? ⟨w.heap.size + 1 + 1,1,none⟩ = some c1 ∧ w.heap.size + 3 ≤ w1.heap.size ∧ Below w.heap.size w w1) :
  w1.drew.cell? ⟨w.heap.size,0,none⟩ = some a0 ∧ w1.drew.cell? ⟨w.heap.size,1,none⟩ = some a1 ∧ w1.drew.cell? ⟨w.heap.size + 1,0,none⟩ = some b0 ∧ w1.drew.cell? ⟨w.heap.size + 1,1,none⟩ = some b1 ∧ w1.drew.cell? ⟨w.heap.size + 1 + 1,0,none⟩ = some c0 ∧ w1.drew.cell? ⟨w.heap.size + 1 + 1,1,none⟩ = some c1 ∧ w.heap.size + 3 ≤ w1.drew.heap.size ∧ Below w.heap.size w w1.drew := by
 obtain ⟨h1,h2,h3,h4,h5,h6,h7,h8⟩ := h
 exact ⟨h1,h2,h3,h4,h5,h6,h7,h8.drew⟩
theorem alloc3_cells (w : World) (a0 a1 b0 b1 c0 c1 : Value) (T : TypeId) :
  let wo := ((w.alloc (.cells #[a0,a1] T)).alloc (.cells #[b0,b1] T)).alloc (.cells #[c0,c1] T)
  wo.cell? ⟨w.heap.size,0,none⟩ = some a0 ∧ wo.cell? ⟨w.heap.size,1,none⟩ = some a1 ∧ wo.cell? ⟨w.heap.size + 1,0,none⟩ = some b0 ∧ wo.cell? ⟨w.heap.size + 1,1,none⟩ = some b1 ∧ wo.cell? ⟨w.heap.size + 1 + 1,0,none⟩ = some c0 ∧ wo.cell? ⟨w.heap.size + 1 + 1,1,none⟩ = some c1 := by
 dsimp only
 refine ⟨?_,?_,?_,?_,?_,?_⟩
 ·rw [World.cell?_alloc_past _ _ _ (by simp <;> omega),World.cell?_alloc_past _ _ _ (by simp),World.cell?_alloc_at _ _ _ _ rfl]; rfl
 ·rw [World.cell?_alloc_past _ _ _ (by simp <;> omega),World.cell?_alloc_past _ _ _ (by simp),World.cell?_alloc_at _ _ _ _ rfl]; rfl
 ·rw [World.cell?_alloc_past _ _ _ (by simp <;> omega),World.cell?_alloc_at _ _ _ _ (by simp)]; rfl
 ·rw [World.cell?_alloc_past _ _ _ (by simp <;> omega),World.cell?_alloc_at _ _ _ _ (by simp)]; rfl
 ·rw [World.cell?_alloc_at _ _ _ _ (by simp)]; rfl
 ·rw [World.cell?_alloc_at _ _ _ _ (by simp)]; rfl
theorem FSl.drew {w : World} {v : Value} {l : List Nat} (h : FSl w v l) : FSl w.drew v l := h
theorem less_FSl (x y : Nat) (hx : x < 2 ^ 64) (hy : y < 2 ^ 64) (cx : coordB x = true) (cy : coordB y = true) (w : World) :
  Calls Tryz.prog 133 #[.float .f64 x,.float .f64 y] w fun r w' => ∃ v', r = .returned v' ∧ FSl w' v' (lessW x y) ∧ Below w.heap.size w w' := by
 obtain ⟨_,_,_,x4⟩ := coord_tame hx cx
 obtain ⟨_,_,_,y4⟩ := coord_tame hy cy
 obtain ⟨hs,_,_⟩ := less_facts hx hy cx cy
 exact (less_walk x y x4 y4 w).mono fun r w' ⟨v', h1,h2,h3⟩ => ⟨v', h1,FSl_of_own h2 (by have := hs.len; omega) (fun z hz => (hs.fins z hz).1),h3⟩
theorem exactly_walk (ax ay bx bY cx cy : Nat) (oax : coordB ax = true) (oay : coordB ay = true) (obx : coordB bx = true) (oby : coordB bY = true) (ocx : coordB cx = true) (ocy : coordB cy = true)
  (hax : ax < 2 ^ 64) (hay : ay < 2 ^ 64) (hbx : bx < 2 ^ 64) (hby : bY < 2 ^ 64) (hcx : cx < 2 ^ 64) (hcy : cy < 2 ^ 64) (w : World) :
  Calls Tryz.prog 102 #[V (ax,ay),V (bx,bY),V (cx,cy)] w fun r w' => r = .returned (.int .i64 (sgnI (det (ax,ay) (bx,bY) (cx,cy)))) ∧ Below w.heap.size w w' := by
 have HL1 := Lib.hid (less_FSl bx ax hbx hax obx oax)
 have HL2 := Lib.hid (less_FSl cy ay hcy hay ocy oay)
 have HL3 := Lib.hid (less_FSl bY ay hby hay oby oay)
 have HL4 := Lib.hid (less_FSl cx ax hcx hax ocx oax)
 obtain ⟨s1,e1,g1⟩ := less_facts hbx hax obx oax
 obtain ⟨s2,e2,g2⟩ := less_facts hcy hay ocy oay
 obtain ⟨s3,e3,g3⟩ := less_facts hby hay oby oay
 obtain ⟨s4,e4,g4⟩ := less_facts hcx hax ocx oax
 have HM1 := Lib.hid (fun va vb => mul_walk (lessW bx ax) (lessW cy ay) va vb s1 s2)
 have HM2 := Lib.hid (fun va vb => mul_walk (lessW bY ay) (lessW cx ax) va vb s3 s4)
 have HC : Hid (∀ va vb w,FSl w va (mulW (lessW bx ax) (lessW cy ay)) → FSl w vb (mulW (lessW bY ay) (lessW cx ax)) → Calls Tryz.prog 135 #[va,vb] w fun r w' => r = .returned (.int .i64 (sgnI (det (ax,ay) (bx,bY) (cx,cy)))) ∧ Below w.heap.size w w') := by
  intro va vb w ha hb
  obtain ⟨S,m1,m2,m3,_⟩ := mul_facts s1 s2
  obtain ⟨T,t1,t2,t3,_⟩ := mul_facts s3 s4
  have := cmp_walk _ _ va vb S T m1 t1 m3 t3 w ha hb
  rw [e1,e2] at m2
  rw [e3,e4] at t2
  have hd : det (ax,ay) (bx,bY) (cx,cy) = (S - T) * 2 ^ unitE := by rw [Int.sub_mul,m2,t2]; rfl
  rw [hd,sgnI_mul]
  exact this
 clear oax oay obx oby ocx ocy hax hay hbx hby hcx hcy s1 s2 s3 s4 e1 e2 e3 e4 g1 g2 g3 g4
 unfold V
 go_enter Tryz.func102,Tryz.ntmps102
 go_wp2
 obtain ⟨wo,hwo⟩ : ∃ wo : World,wo = ((w.alloc (.cells #[.float .f64 ax,.float .f64 ay] 68)).alloc (.cells #[.float .f64 bx,.float .f64 bY] 68)).alloc (.cells #[.float .f64 cx,.float .f64 cy] 68) := ⟨_,rfl⟩
 rw [← hwo]
 have hsz : w.heap.size + 3 ≤ wo.heap.size := by rw [hwo]; simp
 have hcs := alloc3_cells w (.float .f64 ax) (.float .f64 ay) (.float .f64 bx) (.float .f64 bY) (.float .f64 cx) (.float .f64 cy) 68
 have hbw : Below w.heap.size w wo := by rw [hwo]; exact (((Below.refl _ _).alloc (Nat.le_refl _) _).alloc (by simp) _).alloc (by simp <;> omega) _
 rw [← hwo] at hcs
 clear hwo
 have hcs8 : wo.cell? ⟨w.heap.size,0,none⟩ = some (.float .f64 ax) ∧ wo.cell? ⟨w.heap.size,1,none⟩ = some (.float .f64 ay) ∧ wo.cell? ⟨w.heap.size + 1,0,none⟩ = some (.float .f64 bx) ∧ wo.cell? ⟨w.heap.size + 1,1,none⟩ = some (.float .f64 bY) ∧ wo.cell? ⟨w.heap.size + 1 + 1,0,none⟩ = some (.float .f64 cx) ∧ wo.cell? ⟨w.heap.size + 1 + 1,1,none⟩ = some (.float .f64 cy) ∧ w.heap.size + 3 ≤ wo.heap.size ∧ Below w.heap.size w wo := ⟨hcs.1,hcs.2.1,hcs.2.2.1,hcs.2.2.2.1,hcs.2.2.2.2.1,hcs.2.2.2.2.2,hsz,hbw⟩
 clear hcs
 go_region_held3 (fun w' => w'.cell? ⟨w.heap.size,0,none⟩ = some (.float .f64 ax) ∧ w'.cell? ⟨w.heap.size,1,none⟩ = some (.float .f64 ay) ∧ w'.cell? ⟨w.heap.size + 1,0,none⟩ = some (.float .f64 bx) ∧ w'.cell? ⟨w.heap.size + 1,1,none⟩ = some (.float .f64 bY) ∧ w'.cell? ⟨w.heap.size + 1 + 1,0,none⟩ = some (.float .f64 cx) ∧ w'.cell? ⟨w.heap.size + 1 + 1,1,none⟩ = some (.float .f64 cy) ∧ w.heap.size + 3 ≤ w'.heap.size ∧ Below w.heap.size w w') (first | assumption | exact keptDrew (by assumption) | go_keep)
  (first
   |(go_at_call 133; (first
    |((with_reducible refine (HL1.out _).mono ?_); rintro r w1 ⟨v1,rfl,hf1,hb1⟩; have n1 := kept8 (w := w) hb1 (by assumption))
    |((with_reducible refine (HL2.out _).mono ?_); rintro r w2 ⟨v2,rfl,hf2,hb2⟩; have n2 := kept8 (w := w) hb2 (by assumption))))
   |(go_at_call 117; refine (HM1.out _ _ _ (hf1.below hb2) hf2).mono ?_; rintro r w3 ⟨v3,rfl,hf3,hb3⟩; have n3 := kept8 (w := w) hb3 (by assumption)))
 clear hb1 hf1 hf2 hb2 hb3 n1 n2 hcs8
 have hFp := Lib.hid hf3
 clear hf3
 go_wp2
 go_region_held3 (fun w' => w'.cell? ⟨w.heap.size,0,none⟩ = some (.float .f64 ax) ∧ w'.cell? ⟨w.heap.size,1,none⟩ = some (.float .f64 ay) ∧ w'.cell? ⟨w.heap.size + 1,0,none⟩ = some (.float .f64 bx) ∧ w'.cell? ⟨w.heap.size + 1,1,none⟩ = some (.float .f64 bY) ∧ w'.cell? ⟨w.heap.size + 1 + 1,0,none⟩ = some (.float .f64 cx) ∧ w'.cell? ⟨w.heap.size + 1 + 1,1,none⟩ = some (.float .f64 cy) ∧ w.heap.size + 3 ≤ w'.heap.size ∧ Below w.heap.size w w') (first | assumption | exact keptDrew (by assumption) | go_keep)
  (first
   |(go_at_call 133; (first
    |((with_reducible refine (HL3.out _).mono ?_); rintro r w4 ⟨v4,rfl,hf4,hb4⟩; have n4 := kept8 (w := w) hb4 (by assumption))
    |((with_reducible refine (HL4.out _).mono ?_); rintro r w5 ⟨v5,rfl,hf5,hb5⟩; have n5 := kept8 (w := w) hb5 (by assumption))))
   |(go_at_call 117; refine (HM2.out _ _ _ (hf4.below hb5) hf5).mono ?_; rintro r w6 ⟨v6,rfl,hf6,hb6⟩; have n6 := kept8 (w := w) hb6 (by assumption)))
 have hFp6 := Lib.hid (((FSl.drew hFp.out).below hb4).below hb5 |>.below hb6)
 have hBf := n6.2.2.2.2.2.2.2
 clear n3 n4 n5 n6 hb4 hf4 hb5 hf5
 go_wp2_with (go_at_call 135; refine (HC.out _ _ _ hFp6.out hf6).mono ?_; rintro r w7 ⟨rfl,hb7⟩)
 go_ret
 exact ⟨rfl,hBf.trans (hb7.mono hBf.size)⟩
end Go.Proofs.YtbagikgpgdlkcaaGreatDoor
