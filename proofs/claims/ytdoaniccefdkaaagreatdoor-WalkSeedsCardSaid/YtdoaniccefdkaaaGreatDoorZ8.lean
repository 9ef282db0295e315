/- Part of the proof. No conditions. -/
import Derived.Test.YtdoaniccefdkaaaGreatDoorZ3
import Derived.Test.YtdoaniccefdkaaaGreatDoorZ7
import Derived.Maps.RangeWalk
import Derived.DeepKeys4
import Derived.WideKeyPair
import Derived.Maps.OwnRows
import Derived.BigQuiet
import Derived.Handy
import Derived.Deep.RegionHeld3
import Derived.Lib.SliceRun

set_option linter.all false
/- Maps as functions from keys to values: the laws on a map's block, with no datum in sight. -/
namespace Go.Proofs.YtdoaniccefdkaaaGreatDoor
open Go.RowKit Go.Maps

/-- an element reads as itself -/
def tokR (v : Value) : Option (DataW Value × List MemPlace) := some (.held v, [])

/-- a function, and one key more -/
noncomputable def updV (f : Value → Option Value) (k v : Value) : Value → Option Value := fun x => open Classical in if x = k then some v else f x
/-- a function, and one key less -/
noncomputable def delV (f : Value → Option Value) (k : Value) : Value → Option Value := fun x => open Classical in if x = k then none else f x

theorem updV_same (f : Value → Option Value) (k v : Value) : updV f k v k = some v := by simp [updV]
theorem updV_other (f : Value → Option Value) {k x : Value} (v : Value) (h : x ≠ k) : updV f k v x = f x := by simp [updV, h]
theorem delV_same (f : Value → Option Value) (k : Value) : delV f k k = none := by simp [delV]
theorem delV_other (f : Value → Option Value) {k x : Value} (h : x ≠ k) : delV f k x = f x := by simp [delV, h]

section
variable {P : Program} {k : TypeId} {w : World} {b n : Nat} {f : Value → Option Value}

/-- What a datum is as a function. -/
structure DataF (P : Program) (k : TypeId) (D : DataW Value) (f : Value → Option Value) : Prop where
  has : ∀ key kl, keyOf P k key = some kl → Maps.has D kl = (f key).isSome
  val : ∀ key kl v, keyOf P k key = some kl → f key = some v → ∀ zd, D.atKey kl zd = .held v
  key : ∀ key, f key ≠ none → ∃ kl, keyOf P k key = some kl

/-- Block b of w is a map of at most n entries: the function f. -/
def FMap (P : Program) (w : World) (k : TypeId) (b n : Nat) (f : Value → Option Value) : Prop :=
  ∃ D, w.ownsMap P k tokR b n D ∧ DataF P k D f

theorem FMap.made (P : Program) (w : World) (k : TypeId) : FMap P (w.alloc (.map #[] 0)) k w.heap.size 0 (fun _ => none) :=
  ⟨_, World.ownsMap_made w P k tokR, ⟨fun _ _ _ => rfl, fun _ _ _ _ h => (nomatch h), fun _ h => absurd rfl h⟩⟩

theorem FMap.mono (h : FMap P w k b n f) {n' : Nat} (hn : n ≤ n') : FMap P w k b n' f := by
  obtain ⟨D, h1, h2⟩ := h; exact ⟨D, h1.mono hn, h2⟩
theorem FMap.lt (h : FMap P w k b n f) : b < w.heap.size := by obtain ⟨D, h1, _⟩ := h; exact h1.lt
theorem FMap.kept {w' : World} {row : Option Nat} (h : FMap P w k b n f) (hg : w.grownBy w' row) (hne : some b ≠ row) : FMap P w' k b n f := by
  obtain ⟨D, h1, h2⟩ := h; exact ⟨D, h1.kept hg hne, h2⟩
theorem FMap.same {w' : World} (h : FMap P w k b n f) (hb : w'.heap[b]? = w.heap[b]?) : FMap P w' k b n f := by
  obtain ⟨D, ⟨es, clock, h1, h3⟩, h2⟩ := h; exact ⟨D, ⟨es, clock, hb.trans h1, h3⟩, h2⟩
theorem FMap.isMap (h : FMap P w k b n f) : ∃ es clock, w.heap[b]? = some (.map es clock) := by
  obtain ⟨D, ⟨es, clock, h1, h3⟩, h2⟩ := h; exact ⟨es, clock, h1⟩
theorem FMap.fn (h : FMap P w k b n f) {f' : Value → Option Value} (e : ∀ x, f x = f' x) : FMap P w k b n f' := by
  have : f = f' := funext e
  rw [← this]; exact h

theorem keys_ne (K : Keyed P k) {key key' : Value} {kl kl' : Lit} (h : keyOf P k key = some kl) (h' : keyOf P k key' = some kl') (hne : key' ≠ key) : kl' ≠ kl :=
  fun e => hne (K.inj (h' ▸ congrArg some e) h)

theorem isMap_of {D : DataW Value} {R : Value → Option (DataW Value × List MemPlace)} (h : w.ownsMap P k R b n D) : Maps.IsMap D := by
  obtain ⟨es, clock, _, _, _, rfl⟩ := h; exact ⟨_, rfl⟩

theorem DataF.put {D : DataW Value} (hm : Maps.IsMap D) (K : Keyed P k) (h : DataF P k D f) {key : Value} {kl : Lit} (hkey : keyOf P k key = some kl) (v : Value) : DataF P k (D.put kl (.held v)) (updV f key v) := by
  refine ⟨fun key' kl' hk' => ?_, fun key' kl' v' hk' hf zd => ?_, fun key' hk' => ?_⟩
  · by_cases e : key' = key
    · subst e
      rw [hkey] at hk'; cases hk'
      rw [Maps.has_put_same hm (K.key hkey), updV_same]; rfl
    · rw [Maps.has_put_other (keys_ne K hkey hk' e), updV_other _ _ e]; exact h.has _ _ hk'
  · by_cases e : key' = key
    · subst e
      rw [hkey] at hk'; cases hk'
      rw [updV_same] at hf; cases hf
      rw [Maps.atKey_put_same hm (K.key hkey)]
    · rw [updV_other _ _ e] at hf
      rw [Maps.atKey_put_other (keys_ne K hkey hk' e)]; exact h.val _ _ _ hk' hf zd
  · by_cases e : key' = key
    · subst e; exact ⟨_, hkey⟩
    · rw [updV_other _ _ e] at hk'; exact h.key _ hk'

theorem DataF.del {D : DataW Value} (K : Keyed P k) (h : DataF P k D f) {key : Value} {kl : Lit} (hkey : keyOf P k key = some kl) : DataF P k (D.del kl) (delV f key) := by
  refine ⟨fun key' kl' hk' => ?_, fun key' kl' v' hk' hf zd => ?_, fun key' hk' => ?_⟩
  · by_cases e : key' = key
    · subst e
      rw [hkey] at hk'; cases hk'
      rw [Maps.has_del_same, delV_same]; rfl
    · rw [Maps.has_del_other (keys_ne K hkey hk' e), delV_other _ e]; exact h.has _ _ hk'
  · by_cases e : key' = key
    · subst e; rw [delV_same] at hf; cases hf
    · rw [delV_other _ e] at hf
      rw [Maps.atKey_del_other (keys_ne K hkey hk' e)]; exact h.val _ _ _ hk' hf zd
  · by_cases e : key' = key
    · subst e; exact ⟨_, hkey⟩
    · rw [delV_other _ e] at hk'; exact h.key _ hk'

theorem held_inj {v u : Value} (h : tokR v = some (DataW.held u, [])) : v = u := by
  unfold tokR at h; cases h; rfl

/-- 'm[k]', with ok or without -/
theorem FMap.look {t e : TypeId} (h : FMap P w k b n f) (K : Keyed P k) (ht : P.underlying t = some (.map k e)) {z : Value} (hz : (zeroValue e).run P w = .ok z w) {key : Value} {kl : Lit} (hkey : keyOf P k key = some kl) :
    (Instr.lookup t (.map (some b)) key false).run P w = .ok ((f key).getD z) w ∧ (Instr.lookup t (.map (some b)) key true).run P w = .ok (.tuple #[(f key).getD z, .bool (f key).isSome]) w := by
  obtain ⟨D, hown, hD⟩ := h
  have hh := hD.has key kl hkey
  obtain ⟨v, ps, hrun, hv⟩ := hown.lookup K ht hz (rfl : tokR z = some (.held z, [])) hkey
  obtain ⟨v2, ps2, hrun2, hv2⟩ := hown.look_ok K ht hz (rfl : tokR z = some (.held z, [])) hkey
  have ev : ∀ v ps, tokR v = some (D.atKey kl (.held z), ps) → v = (f key).getD z := by
    intro v ps hv
    cases hf : f key with
    | none =>
      rw [hf] at hh
      rw [Maps.atKey_of_not_has (by simpa using hh)] at hv
      unfold tokR at hv; cases hv; rfl
    | some u =>
      rw [hD.val key kl u hkey hf] at hv
      unfold tokR at hv; cases hv; rfl
  rw [hrun, hrun2, ev v ps hv, ev v2 ps2 hv2, hh]
  exact ⟨rfl, rfl⟩

end

/-- 'm[k] = v' as an equation -/
theorem FMap.store {P : Program} {k : TypeId} {w : World} {b n : Nat} {f : Value → Option Value} {t e : TypeId} (h : FMap P w k b n f) (K : Keyed P k) (ht : P.underlying t = some (.map k e)) (hn : n < maxLen) {key : Value} {kl : Lit} (hkey : keyOf P k key = some kl) (val : Value) :
    ∃ w', (Instr.mapUpdate t (.map (some b)) key val).run P w = .ok () w' ∧ FMap P w' k b (n + 1) (updV f key val) ∧ w.grownBy w' (some b) := by
  obtain ⟨D, hown, hD⟩ := h
  obtain ⟨w', hrun, h1, h2⟩ := hown.update K ht hn hkey (rfl : tokR val = some (.held val, []))
  exact ⟨w', hrun, ⟨_, h1, hD.put (isMap_of hown) K hkey val⟩, h2⟩

section
variable {P : Program} (w : World) {ops : Array Oper} {rest : List Oper} {o : Oper} {a : Act} {Q : Exit → Act → World → Prop}

theorem wp_look (hg : o.guard = none) (m x : Operand) (t : TypeId) (hop : o.op = Op.lookup t m x false) (k e : TypeId) (K : Keyed P k) (ht : P.underlying t = some (.map k e)) (z : Value) (hz : (zeroValue e).run P w = .ok z w)
    (b n : Nat) (f : Value → Option Value) (hm : a.eval m = .map (some b)) (h : FMap P w k b n f) (key : Value) (hx : a.eval x = key) (kl : Lit) (hkey : keyOf P k key = some kl) (v : Value) (hv : (f key).getD z = v)
    (hK : wpList P ops Q rest (a.put o.dst v) w) : wpList P ops Q (o :: rest) a w := by
  refine wpList_plain hg fun K' hK' => ?_
  have hrun := (h.look K ht hz hkey).1
  unfold Oper.wp
  simp [execOp, hop, hm, hx, hrun, Result.andThen]
  rw [hv]
  exact hK' _ _ hK

theorem wp_look_ok (hg : o.guard = none) (m x : Operand) (t : TypeId) (hop : o.op = Op.lookup t m x true) (k e : TypeId) (K : Keyed P k) (ht : P.underlying t = some (.map k e)) (z : Value) (hz : (zeroValue e).run P w = .ok z w)
    (b n : Nat) (f : Value → Option Value) (hm : a.eval m = .map (some b)) (h : FMap P w k b n f) (key : Value) (hx : a.eval x = key) (kl : Lit) (hkey : keyOf P k key = some kl) (v : Value) (hv : (f key).getD z = v) (ok : Bool) (hok : (f key).isSome = ok)
    (hK : wpList P ops Q rest (a.put o.dst (.tuple #[v, .bool ok])) w) : wpList P ops Q (o :: rest) a w := by
  refine wpList_plain hg fun K' hK' => ?_
  have hrun := (h.look K ht hz hkey).2
  unfold Oper.wp
  simp [execOp, hop, hm, hx, hrun, Result.andThen]
  rw [hv, hok]
  exact hK' _ _ hK

theorem wp_store (hg : o.guard = none) (m x v : Operand) (t : TypeId) (hop : o.op = Op.mapUpdate t m x v) (k e : TypeId) (K : Keyed P k) (ht : P.underlying t = some (.map k e))
    (b n : Nat) (f : Value → Option Value) (hm : a.eval m = .map (some b)) (h : FMap P w k b n f) (hn : n < maxLen) (key val : Value) (hx : a.eval x = key) (hv : a.eval v = val) (kl : Lit) (hkey : keyOf P k key = some kl)
    (hK : ∀ w', FMap P w' k b (n + 1) (updV f key val) → w.grownBy w' (some b) → wpList P ops Q rest (a.put o.dst undef) w') : wpList P ops Q (o :: rest) a w := by
  obtain ⟨D, hown, hD⟩ := h
  exact wpList_mapUpdate_own w hg m x v t hop k e K ht tokR b n D hm hown hn key val kl hx hv hkey (.held val) [] rfl
    (fun w' h1 h2 => hK w' ⟨_, h1, hD.put (isMap_of hown) K hkey val⟩ h2)

theorem wp_delete (hg : o.guard = none) (m x : Operand) (t k : TypeId) (hop : o.op = Op.call { callee := Callee.builtin Builtin.delete, args := #[m, x], argTypes := #[t, k] }) (e : TypeId) (K : Keyed P k) (ht : P.underlying t = some (.map k e))
    (b n : Nat) (f : Value → Option Value) (hm : a.eval m = .map (some b)) (h : FMap P w k b n f) (key : Value) (hx : a.eval x = key) (kl : Lit) (hkey : keyOf P k key = some kl)
    (hK : ∀ w', FMap P w' k b n (delV f key) → w.grownBy w' (some b) → wpList P ops Q rest (a.put o.dst (.tuple #[])) w') : wpList P ops Q (o :: rest) a w := by
  obtain ⟨D, hown, hD⟩ := h
  exact wpList_delete_own w hg m x t k hop e K ht tokR b n D hm hown key kl hx hkey
    (fun w' h1 h2 => hK w' ⟨_, h1, hD.del K hkey⟩ h2.grown)
end

/-! ### ranging -/
section
variable {P : Program} {k : TypeId} {w : World} {b r n cnt : Nat} {f : Value → Option Value} {lf : Value → Bool}

/-- 'for k, v := range m' under way: lf says which keys are still to come. -/
def FRange (P : Program) (w : World) (k : TypeId) (b r n : Nat) (f : Value → Option Value) (lf : Value → Bool) (cnt : Nat) : Prop :=
  ∃ D left, w.ranges P k tokR b r n D left cnt ∧ DataF P k D f ∧ (∀ key kl, keyOf P k key = some kl → lf key = left kl) ∧ (∀ key, lf key = true → f key ≠ none) ∧ ∀ kl, left kl = true → ∃ key, keyOf P k key = some kl

theorem FRange.owns (h : FRange P w k b r n f lf cnt) : FMap P w k b n f := by
  obtain ⟨D, left, h1, h2, _⟩ := h; exact ⟨D, h1.owns, h2⟩
theorem FRange.left_eq (h : FRange P w k b r n f lf cnt) : w.rangeLeft b r = cnt := by
  obtain ⟨D, left, h1, _⟩ := h; exact h1.left_eq
theorem FRange.kept {w' : World} {row : Option Nat} (h : FRange P w k b r n f lf cnt) (hg : w.grownBy w' row) (hb' : some b ≠ row) (hr' : some r ≠ row) : FRange P w' k b r n f lf cnt := by
  obtain ⟨D, left, h1, h2⟩ := h; exact ⟨D, left, h1.kept hg hb' hr', h2⟩
theorem FRange.ne (h : FRange P w k b r n f lf cnt) : r ≠ b := by obtain ⟨D, left, h1, _⟩ := h; exact h1.ne
theorem FRange.lt (h : FRange P w k b r n f lf cnt) : r < w.heap.size := by obtain ⟨D, left, h1, _⟩ := h; exact h1.lt

theorem has_key {D : DataW Value} (h : w.ownsMap P k tokR b n D) {kl : Lit} (hk : Maps.has D kl = true) : ∃ key, keyOf P k key = some kl := by
  obtain ⟨es, clock, _, F, _, rfl⟩ := h
  obtain ⟨p, hp, hpk⟩ := List.any_eq_true.1 hk
  obtain ⟨x, hx, rfl⟩ := List.mem_map.1 (mem_sorted.1 hp)
  obtain ⟨y, hy⟩ := F.reads x hx
  have := WideElems.rd_key hy
  refine ⟨x.key, ?_⟩
  rw [this, ← WideAt.sameKey_eq hpk, WideElems.rg_of hy]
end

section
variable {P : Program} (w : World) {ops : Array Oper} {rest : List Oper} {o : Oper} {a : Act} {Q : Exit → Act → World → Prop}

theorem wp_range (hg : o.guard = none) (m : Operand) (t : TypeId) (hop : o.op = Op.range t m) (k e : TypeId) (K : Keyed P k) (ht : P.underlying t = some (.map k e)) (b n : Nat) (f : Value → Option Value)
    (hm : a.eval m = .map (some b)) (h : FMap P w k b n f)
    (hK : ∀ w', FRange P w' k b w.heap.size n f (fun x => (f x).isSome) (w'.rangeLeft b w.heap.size) → w.grownBy w' none → w'.heap.size = w.heap.size + 1 → wpList P ops Q rest (a.put o.dst (.pointer (some ⟨w.heap.size, 0, none⟩))) w') :
    wpList P ops Q (o :: rest) a w := by
  obtain ⟨D, hown, hD⟩ := h
  refine wpList_range_own w hg m t hop k e K ht tokR b n D hm hown fun w' h1 h2 h3 => hK w' ⟨D, _, h1.left_eq ▸ h1, hD, fun key kl hkl => (hD.has key kl hkl).symm, fun key hl => by intro e; simp [e] at hl, fun kl hkl => has_key hown hkl⟩ h2 h3

/-- the step -/
theorem wp_next (hg : o.guard = none) (it : Operand) (hop : o.op = Op.next it false) (k : TypeId) (K : Keyed P k) {α β : Type} (mkK : α → Value) (mkV : β → Value) (b r n : Nat) (f : Value → Option Value)
    (invK : ∀ key, f key ≠ none → ∃ x, key = mkK x) (invV : ∀ key v, f key = some v → ∃ c, v = mkV c) (lf : Value → Bool) (cnt : Nat)
    (hit : a.eval it = .pointer (some ⟨r, 0, none⟩)) (h : FRange P w k b r n f lf cnt)
    (hDone : (∀ key, lf key = false) → wpList P ops Q rest (a.put o.dst (.tuple #[.bool false])) w)
    (hMore : ∀ (x : α) (c : β) (w' : World) (cnt' : Nat) (lf' : Value → Bool), lf (mkK x) = true → f (mkK x) = some (mkV c) → lf' (mkK x) = false → (∀ y, y ≠ mkK x → lf' y = lf y) → FRange P w' k b r n f lf' cnt' → cnt' < cnt →
      w.grownBy w' (some r) → w'.heap.size = w.heap.size → (Instr.entry (.pointer (some ⟨r, 0, none⟩))).run P w' = .ok (.tuple #[mkK x, mkV c]) w' → wpList P ops Q rest (a.put o.dst (.tuple #[.bool true, mkK x, mkV c])) w') :
    wpList P ops Q (o :: rest) a w := by
  obtain ⟨D, left, hr, hD, hl, hn, hk⟩ := h
  refine wpList_plain hg fun K' hK' => ?_
  unfold Oper.wp
  rcases hr.next K o.type with ⟨h0, hl0, hrun⟩ | ⟨key, v, kl, y, w', cnt', hkey, hlk, hv, hat, hrun, hrg, hlt, hgr, hsz, hen⟩
  · simp [execOp, hop, hit, hrun, Result.andThen]
    refine hK' _ _ (hDone fun key => ?_)
    cases e : lf key
    · rfl
    · have := hn key e
      obtain ⟨kl, hkl⟩ := hD.key key this
      rw [hl key kl hkl, hl0] at e; cases e
  · have hne := hn key (by rw [hl key kl hkey]; exact hlk)
    obtain ⟨u, hu⟩ := Option.ne_none_iff_exists'.1 hne
    have huv : v = u := by
      have := hD.val key kl u hkey hu .nil
      rw [hat] at this
      unfold tokR at hv; cases hv
      cases this; rfl
    subst huv
    obtain ⟨x, rfl⟩ := invK key hne
    obtain ⟨c, rfl⟩ := invV _ v hu
    simp [execOp, hop, hit, hrun, Result.andThen]
    refine hK' _ _ (hMore x c w' cnt' (fun z => open Classical in if z = mkK x then false else lf z) (by rw [hl _ kl hkey]; exact hlk) hu (by simp) (fun y hy => by simp [hy]) ⟨D, _, hrg, hD, fun key2 kl2 hk2 => ?_, fun key2 h2 => ?_, fun kl2 hk2 => ?_⟩ hlt hgr hsz hen)
    · by_cases e : key2 = mkK x
      · subst e
        rw [hkey] at hk2; cases hk2
        simp [WideAt.sameKey_self (K.key hkey)]
      · have hne2 : kl2 ≠ kl := fun e2 => e (K.inj (hk2 ▸ congrArg some e2) hkey)
        simp [e, hl key2 kl2 hk2, Maps.sameKey_ne hne2]
    · by_cases e : key2 = mkK x
      · simp [e] at h2
      · simp [e] at h2; exact hn key2 h2
    · simp at hk2; exact hk kl2 hk2.1
end

end Go.Proofs.YtdoaniccefdkaaaGreatDoor

/- The keys of a mesh's maps, and what a mesh is in memory. -/
namespace Go.Proofs.YtdoaniccefdkaaaGreatDoor
open Go.RowKit Go.Maps Go.WideMaps

theorem laidOut : laidOutB Tryz.prog = true := by kernel_rfl
theorem edgeArr : ArrKey Tryz.prog 117 3 2 := ⟨Tryz.underlying117, by kernel_rfl, by kernel_rfl, by kernel_rfl⟩
theorem edgeRow : Tryz.prog.types.size.ble 117 = false := by kernel_rfl
theorem edgeRow' : (117 : TypeId) < Tryz.prog.types.size := Nat.lt_of_not_le fun h => Bool.noConfusion (edgeRow.symm.trans (Nat.ble_eq_true_of_le h))
theorem edgeDeep : Tryz.prog.keyTypeAt 2 117 = true := by kernel_rfl
theorem edgeLaw : Keyed Tryz.prog 117 := Keyed.of_law (deep_law_laid laidOut (m := 2) (by omega) edgeRow' edgeDeep (by rw [Tryz.underlying117]))
theorem intLaw : Keyed Tryz.prog 3 := int_keyed Tryz.underlying3
theorem succ_of_lt {n k : Nat} (h : k < n) : ∃ m, n = m + 1 := ⟨n - 1, by omega⟩
theorem typesSucc : ∃ m, Tryz.prog.types.size = m + 1 := succ_of_lt edgeRow'

def i64ok (a : Int) : Prop := -9223372036854775808 ≤ a ∧ a < 9223372036854775808
theorem wf_of {a : Int} (h : i64ok a) : (Lit.int .i64 a).wf = true := by unfold i64ok at h; simp [Lit.wf, IntKind.min, IntKind.max, IntKind.bits, IntKind.signed]; omega
theorem of_wf {a : Int} (h : (Lit.int .i64 a).wf = true) : i64ok a := by unfold i64ok; simp [Lit.wf, IntKind.min, IntKind.max, IntKind.bits, IntKind.signed] at h; omega

def kE (a b : Int) : Value := .agg #[.int .i64 a, .int .i64 b]
def vI (a : Int) : Value := .int .i64 a
theorem kE_inj {a b c d : Int} : kE a b = kE c d ↔ a = c ∧ b = d := by simp [kE]
theorem vI_inj {a b : Int} : vI a = vI b ↔ a = b := by simp [vI]

theorem keyE {a b : Int} (ha : i64ok a) (hb : i64ok b) : keyOf Tryz.prog 117 (kE a b) = some (.string (keyBytes [.int .i64 a, .int .i64 b])) :=
  keyOf_pair edgeArr Tryz.underlying3 typesSucc (wf_of ha) (wf_of hb)
theorem keyI {a : Int} (ha : i64ok a) : keyOf Tryz.prog 3 (vI a) = some (.int .i64 a) := keyOf_int_mk Tryz.underlying3 (wf_of ha)

/-- a function on edges, as one on values -/
def edgeV (f : Int → Int → Option Int) : Value → Option Value
  | .agg ⟨[.int .i64 a, .int .i64 b]⟩ => (f a b).map vI
  | _ => none
/-- a function on numbers, as one on values -/
def intV (f : Int → Option Value) : Value → Option Value
  | .int .i64 a => f a
  | _ => none

theorem edgeV_at (f : Int → Int → Option Int) (a b : Int) : edgeV f (kE a b) = (f a b).map vI := rfl
theorem intV_at (f : Int → Option Value) (a : Int) : intV f (vI a) = f a := rfl
theorem edgeV_ne {f : Int → Int → Option Int} {v : Value} (h : edgeV f v ≠ none) : ∃ x : Int × Int, v = kE x.1 x.2 := by
  unfold edgeV at h
  split at h
  · exact ⟨(_, _), rfl⟩
  · exact absurd rfl h
theorem intV_ne {f : Int → Option Value} {v : Value} (h : intV f v ≠ none) : ∃ x : Int, v = vI x := by
  unfold intV at h
  split at h
  · exact ⟨_, rfl⟩
  · exact absurd rfl h

/-- a function on edges, and one edge more, one less -/
def upE (f : Int → Int → Option Int) (a b c : Int) : Int → Int → Option Int := fun x y => if x = a ∧ y = b then some c else f x y
def delE (f : Int → Int → Option Int) (a b : Int) : Int → Int → Option Int := fun x y => if x = a ∧ y = b then none else f x y
def upI {α : Type} (f : Int → α) (a : Int) (v : α) : Int → α := fun x => if x = a then v else f x

theorem edgeV_up (f : Int → Int → Option Int) (a b c : Int) : updV (edgeV f) (kE a b) (vI c) = edgeV (upE f a b c) := by
  funext v
  by_cases h : ∃ x : Int × Int, v = kE x.1 x.2
  · obtain ⟨⟨x, y⟩, rfl⟩ := h
    dsimp only
    rw [edgeV_at]
    unfold upE updV
    simp only [kE_inj]
    split
    · rfl
    · exact edgeV_at f x y
  · have h1 : edgeV (upE f a b c) v = none := by
      apply Classical.byContradiction; intro hh; exact h (edgeV_ne hh)
    have h2 : edgeV f v = none := by
      apply Classical.byContradiction; intro hh; exact h (edgeV_ne hh)
    rw [h1, updV_other _ _ (fun e => h ⟨(a, b), e⟩), h2]

theorem edgeV_del (f : Int → Int → Option Int) (a b : Int) : delV (edgeV f) (kE a b) = edgeV (delE f a b) := by
  funext v
  by_cases h : ∃ x : Int × Int, v = kE x.1 x.2
  · obtain ⟨⟨x, y⟩, rfl⟩ := h
    dsimp only
    rw [edgeV_at]
    unfold delE delV
    simp only [kE_inj]
    split
    · rfl
    · exact edgeV_at f x y
  · have h1 : edgeV (delE f a b) v = none := by
      apply Classical.byContradiction; intro hh; exact h (edgeV_ne hh)
    have h2 : edgeV f v = none := by
      apply Classical.byContradiction; intro hh; exact h (edgeV_ne hh)
    rw [h1, delV_other _ (fun e => h ⟨(a, b), e⟩), h2]

theorem intV_up (f : Int → Option Value) (a : Int) (u : Value) : updV (intV f) (vI a) u = intV (upI f a (some u)) := by
  funext v
  by_cases h : ∃ x : Int, v = vI x
  · obtain ⟨x, rfl⟩ := h
    rw [intV_at]
    unfold upI updV
    simp only [vI_inj]
    split
    · rfl
    · exact intV_at f x
  · have h1 : intV (upI f a (some u)) v = none := by
      apply Classical.byContradiction; intro hh; exact h (intV_ne hh)
    have h2 : intV f v = none := by
      apply Classical.byContradiction; intro hh; exact h (intV_ne hh)
    rw [h1, updV_other _ _ (fun e => h ⟨a, e⟩), h2]

/-! ### the mesh -/
/-- A mesh, plainly. -/
structure MeshM where
  P : List Pt
  ap : Int → Int → Option Int
  sp : Int → List Int
  cnt : Int
  fx : Int → Int → Option Int

def cellsP (l : List Pt) : List Value := l.flatMap fun p => [.float .f64 p.1, .float .f64 p.2]
theorem cellsP_len (l : List Pt) : (cellsP l).length = l.length * 2 := by
  induction l with
  | nil => rfl
  | cons p r ih => simp only [cellsP, List.flatMap_cons, List.length_append, List.length_cons, List.length_nil] at *; omega
theorem cellsP_at (l : List Pt) : ∀ i, i < l.length → (cellsP l)[i * 2]? = some (.float .f64 (l.getD i (0, 0)).1) ∧ (cellsP l)[i * 2 + 1]? = some (.float .f64 (l.getD i (0, 0)).2) := by
  induction l with
  | nil => intro i h; simp at h
  | cons p r ih =>
    intro i h
    cases i with
    | zero => exact ⟨rfl, rfl⟩
    | succ i =>
      have := ih i (by simp at h; omega)
      have e1 : (i + 1) * 2 = i * 2 + 2 := by omega
      rw [e1]
      exact this

/-- The rows of a mesh's spokes. -/
structure SpokeRows (w : World) (sv : Int → Option Value) (sp : Int → List Int) (F : Nat → Prop) (avoid : Nat → Prop) : Prop where
  none : ∀ a, sv a = none → sp a = []
  own : ∀ a v, sv a = some v → w.ownsInts 0 3 .i64 v (sp a)
  dis : ∀ a a' v v', a ≠ a' → sv a = some v → sv a' = some v' → v.ownBlock = .none ∨ v.ownBlock ≠ v'.ownBlock
  inF : ∀ a v g, sv a = some v → v.ownBlock = some g → F g ∧ ¬avoid g

/-- Block mb of w holds a mesh; all that it leads to lies in F. -/
structure MeshParts (w : World) (mb ba bs bf n : Nat) (pv : Value) (sv : Int → Option Value) (M : MeshM) (F : Nat → Prop) : Prop where
  c0 : w.cell? ⟨mb, 0, none⟩ = some pv
  c1 : w.cell? ⟨mb, 1, none⟩ = some (.map (some ba))
  c2 : w.cell? ⟨mb, 2, none⟩ = some (.map (some bs))
  c3 : w.cell? ⟨mb, 3, none⟩ = some (.int .i64 M.cnt)
  c4 : w.cell? ⟨mb, 4, none⟩ = some (.map (some bf))
  fz : ∀ i, w.frozen? ⟨mb, i, none⟩ = false
  pts : w.ownsRow 0 52 2 pv M.P.length (cellsP M.P)
  apm : FMap Tryz.prog w 117 ba n (edgeV M.ap)
  spm : FMap Tryz.prog w 3 bs n (intV sv)
  fxm : FMap Tryz.prog w 117 bf n (edgeV M.fx)
  rows : SpokeRows w sv M.sp F (fun g => g = mb ∨ pv.ownBlock = some g)
  nab : ba ≠ bs
  naf : ba ≠ bf
  nsf : bs ≠ bf
  npm : pv.ownBlock ≠ some mb
  fmb : F mb
  fba : F ba
  fbs : F bs
  fbf : F bf
  fpv : ∀ g, pv.ownBlock = some g → F g
  flt : ∀ g, F g → g < w.heap.size
  spl : ∀ a, (M.sp a).length ≤ n
  cb : -(n : Int) ≤ M.cnt ∧ M.cnt ≤ n

def MeshAt (w : World) (mb n : Nat) (M : MeshM) (F : Nat → Prop) : Prop := ∃ ba bs bf pv sv, MeshParts w mb ba bs bf n pv sv M F

theorem ownsRow_same {w w' : World} {base e size n : Nat} {v : Value} {xs : List Value} (h : w.ownsRow base e size v n xs) (hb : ∀ g, v.ownBlock = some g → w'.heap[g]? = w.heap[g]?) : w'.ownsRow base e size v n xs := by
  refine ⟨h.1, ?_⟩
  rcases h.2 with h1 | ⟨g, cap, cur, rfl, h2, h3, h4⟩
  · exact .inl h1
  · exact .inr ⟨g, cap, cur, rfl, h2, (hb g rfl).trans h3, h4⟩

theorem SpokeRows.same {w w' : World} {sv : Int → Option Value} {sp : Int → List Int} {F av : Nat → Prop} (h : SpokeRows w sv sp F av) (hb : ∀ g, F g → ¬av g → w'.heap[g]? = w.heap[g]?) : SpokeRows w' sv sp F av :=
  ⟨h.none, fun a v hv => ⟨ownsRow_same (h.own a v hv).1 fun g hg => hb g (h.inF a v g hv hg).1 (h.inF a v g hv hg).2, (h.own a v hv).2⟩, h.dis, h.inF⟩

theorem MeshParts.same {w w' : World} {mb ba bs bf n : Nat} {pv : Value} {sv : Int → Option Value} {M : MeshM} {F : Nat → Prop} (h : MeshParts w mb ba bs bf n pv sv M F) (hsz : w.heap.size ≤ w'.heap.size) (hb : ∀ g, F g → w'.heap[g]? = w.heap[g]?) : MeshParts w' mb ba bs bf n pv sv M F := by
  have hc : ∀ i, w'.cell? ⟨mb, i, none⟩ = w.cell? ⟨mb, i, none⟩ := fun i => World.cell?_of_block (hb mb h.fmb)
  exact ⟨(hc 0).trans h.c0, (hc 1).trans h.c1, (hc 2).trans h.c2, (hc 3).trans h.c3, (hc 4).trans h.c4, fun i => (World.frozen?_of_block (hb mb h.fmb)).trans (h.fz i),
    ownsRow_same h.pts fun g hg => hb g (h.fpv g hg), h.apm.same (hb ba h.fba), h.spm.same (hb bs h.fbs), h.fxm.same (hb bf h.fbf), h.rows.same fun g hg _ => hb g hg, h.nab, h.naf, h.nsf, h.npm, h.fmb, h.fba, h.fbs, h.fbf, h.fpv, fun g hg => Nat.lt_of_lt_of_le (h.flt g hg) hsz, h.spl, h.cb⟩

theorem MeshParts.below {w w' : World} {mb ba bs bf n : Nat} {pv : Value} {sv : Int → Option Value} {M : MeshM} {F : Nat → Prop} (h : MeshParts w mb ba bs bf n pv sv M F) (hb : Below w.heap.size w w') : MeshParts w' mb ba bs bf n pv sv M F :=
  h.same hb.size fun g hg => hb.block g (h.flt g hg)

theorem MeshParts.wider {w : World} {mb ba bs bf n : Nat} {pv : Value} {sv : Int → Option Value} {M : MeshM} {F G : Nat → Prop} (h : MeshParts w mb ba bs bf n pv sv M F) (hFG : ∀ g, F g → G g) (hG : ∀ g, G g → g < w.heap.size) : MeshParts w mb ba bs bf n pv sv M G :=
  { h with rows := ⟨h.rows.none, h.rows.own, h.rows.dis, fun a v g h1 h2 => ⟨hFG g (h.rows.inF a v g h1 h2).1, (h.rows.inF a v g h1 h2).2⟩⟩, fmb := hFG _ h.fmb, fba := hFG _ h.fba, fbs := hFG _ h.fbs, fbf := hFG _ h.fbf, fpv := fun g hg => hFG g (h.fpv g hg), flt := hG }

theorem MeshParts.mono {w : World} {mb ba bs bf n n' : Nat} {pv : Value} {sv : Int → Option Value} {M : MeshM} {F : Nat → Prop} (h : MeshParts w mb ba bs bf n pv sv M F) (hn : n ≤ n') : MeshParts w mb ba bs bf n' pv sv M F :=
  { h with apm := h.apm.mono hn, spm := h.spm.mono hn, fxm := h.fxm.mono hn, spl := fun a => Nat.le_trans (h.spl a) hn, cb := by have := h.cb; omega }

/-- the points, as the walk reads them -/
theorem MeshParts.ptcells {w : World} {mb ba bs bf n : Nat} {pv : Value} {sv : Int → Option Value} {M : MeshM} {F : Nat → Prop} (h : MeshParts w mb ba bs bf n pv sv M F) :
    ∃ ad cap, pv = .slice ad M.P.length cap ∧ PCells w ad M.P := by
  rcases h.pts.2 with ⟨h1, h2⟩ | ⟨g, cap, cur, h1, h2, h3, h4, h5, h6, h7⟩
  · exact ⟨none, 0, by rw [h2]; exact h1, fun hl => absurd h2 (by omega)⟩
  · refine ⟨some ⟨g, 0, none⟩, cap, h1, fun _ => ⟨g, 0, rfl, (Array.getElem?_eq_some_iff.1 h3).1, fun i hi => ?_⟩⟩
    have hp := h.pts
    rw [h1] at hp
    have := cellsP_at M.P i hi
    refine ⟨?_, ?_⟩
    · rw [hp.cellAt _ (by omega)]; simpa using this.1
    · rw [hp.cellAt _ (by omega)]; simpa using this.2

/-- Nothing turns but what lies in G, and new blocks. -/
structure Stay (G : Nat → Prop) (w w' : World) : Prop where
  os : w'.os = w.os
  tape : w'.tape = w.tape
  output : w'.output = w.output
  size : w.heap.size ≤ w'.heap.size
  block : ∀ i, i < w.heap.size → ¬G i → w'.heap[i]? = w.heap[i]?

theorem Stay.refl (G : Nat → Prop) (w : World) : Stay G w w := ⟨rfl, rfl, rfl, Nat.le_refl _, fun _ _ _ => rfl⟩
theorem Stay.of_below {G : Nat → Prop} {w w' : World} (h : Below w.heap.size w w') : Stay G w w' := ⟨h.os, h.tape, h.output, h.size, fun i hi _ => h.block i hi⟩
theorem Stay.of_grown {G : Nat → Prop} {w w' : World} {row : Option Nat} (h : w.grownBy w' row) (hr : ∀ j, row = some j → G j) : Stay G w w' :=
  ⟨h.os, h.tape, h.output, h.size, fun i hi hG => h.block i hi (fun e => hG (hr i e.symm))⟩
theorem Stay.trans {G : Nat → Prop} {a b c : World} (h : Stay G a b) (k : Stay (fun i => G i ∨ a.heap.size ≤ i) b c) : Stay G a c :=
  ⟨k.os.trans h.os, k.tape.trans h.tape, k.output.trans h.output, Nat.le_trans h.size k.size, fun i hi hG => (k.block i (Nat.lt_of_lt_of_le hi h.size) (fun e => e.elim hG (fun e => by omega))).trans (h.block i hi hG)⟩
theorem Stay.mono {G G' : Nat → Prop} {w w' : World} (h : Stay G w w') (hg : ∀ i, G i → G' i) : Stay G' w w' := ⟨h.os, h.tape, h.output, h.size, fun i hi hG => h.block i hi (fun e => hG (hg i e))⟩

end Go.Proofs.YtdoaniccefdkaaaGreatDoor

/- The walks of a mesh's small methods: Len, has, Count, Apex, own, turned, Fixed. -/
namespace Go.Proofs.YtdoaniccefdkaaaGreatDoor
open Go.RowKit Go.Maps Go.WideMaps

theorem zeroInt (w : World) : (zeroValue 3).run Tryz.prog w = .ok (.int .i64 0) w := by kernel_rfl

theorem len_walk {w : World} {mb n : Nat} {M : MeshM} {F : Nat → Prop} (h : MeshAt w mb n M F) :
    Calls Tryz.prog 47 #[.pointer (some ⟨mb, 0, none⟩)] w fun r w' => r = .returned (.int .i64 M.P.length) ∧ w' = w := by
  obtain ⟨ba, bs, bf, pv, sv, h⟩ := h
  obtain ⟨ad, cap, rfl, _⟩ := h.ptcells
  have c0 := h.c0
  clear h
  go_enter Tryz.func47, Tryz.ntmps47
  go_wp2
  go_ret
  exact ⟨rfl, rfl⟩

theorem count_walk {w : World} {mb n : Nat} {M : MeshM} {F : Nat → Prop} (h : MeshAt w mb n M F) :
    Calls Tryz.prog 61 #[.pointer (some ⟨mb, 0, none⟩)] w fun r w' => r = .returned (.int .i64 M.cnt) ∧ w' = w := by
  obtain ⟨ba, bs, bf, pv, sv, h⟩ := h
  have c3 := h.c3
  clear h
  go_enter Tryz.func61, Tryz.ntmps61
  go_wp2
  go_ret
  exact ⟨rfl, rfl⟩

/-- is it a point's number? -/
def hasM (M : MeshM) (i : Int) : Bool := decide (0 ≤ i) && decide (i < M.P.length)

theorem has_walk {w : World} {mb n : Nat} {M : MeshM} {F : Nat → Prop} (h : MeshAt w mb n M F) (i : Int) :
    Calls Tryz.prog 89 #[.pointer (some ⟨mb, 0, none⟩), .int .i64 i] w fun r w' => r = .returned (.bool (hasM M i)) ∧ w' = w := by
  have HL := Lib.hid (len_walk h)
  clear h
  unfold hasM
  generalize (M.P.length : Int) = L at *
  by_cases h0 : 0 ≤ i
  · by_cases h1 : i < L
    all_goals
      go_enter Tryz.func89, Tryz.ntmps89
      go_wp2_with (go_at_call 47; refine HL.out.mono ?_; rintro r w1 ⟨rfl, rfl⟩)
      go_ret
      first | (simp [h0]; done) | (simp [h0]; omega)
  · go_enter Tryz.func89, Tryz.ntmps89
    go_wp2_with (go_at_call 47; refine HL.out.mono ?_; rintro r w1 ⟨rfl, rfl⟩)
    go_ret
    simp; omega

theorem edgeV_getD (f : Int → Int → Option Int) (a b : Int) : (edgeV f (kE a b)).getD (.int .i64 0) = .int .i64 ((f a b).getD 0) := by rw [edgeV_at]; cases f a b <;> rfl
theorem edgeV_isSome (f : Int → Int → Option Int) (a b : Int) : (edgeV f (kE a b)).isSome = (f a b).isSome := by rw [edgeV_at]; cases f a b <;> rfl

theorem apex_walk {w : World} {mb n : Nat} {M : MeshM} {F : Nat → Prop} (h : MeshAt w mb n M F) {a b : Int} (ha : i64ok a) (hb : i64ok b) :
    Calls Tryz.prog 19 #[.pointer (some ⟨mb, 0, none⟩), .int .i64 a, .int .i64 b] w fun r w' => r = .returned (.tuple #[.int .i64 ((M.ap a b).getD 0), .bool (M.ap a b).isSome]) ∧ w' = w := by
  obtain ⟨ba, bs, bf, pv, sv, h⟩ := h
  have c1 := h.c1
  have HF := Lib.hid h.apm
  have HK := Lib.hid (keyE ha hb)
  have HV := Lib.hid (edgeV_getD M.ap a b)
  have HI := Lib.hid (edgeV_isSome M.ap a b)
  clear h ha hb
  go_enter Tryz.func19, Tryz.ntmps19
  go_wp2_with (at_lookup; refine wp_look_ok _ rfl _ _ 113 rfl 117 3 edgeLaw Tryz.underlying113 (.int .i64 0) (zeroInt _) ba n _ rfl HF.out _ rfl _ HK.out _ HV.out _ HI.out ?_)
  go_ret2
  exact ⟨rfl, rfl⟩

def minI (a b : Int) : Int := if a ≤ b then a else b
def maxI (a b : Int) : Int := if a ≤ b then b else a

theorem own_walk (a b : Int) (w : World) :
    Calls Tryz.prog 71 #[.int .i64 a, .int .i64 b] w fun r w' => r = .returned (kE (minI a b) (maxI a b)) ∧ Below w.heap.size w w' := by
  unfold kE minI maxI
  by_cases h : a ≤ b
  all_goals
    go_enter Tryz.func71, Tryz.ntmps71
    go_wp2
    all_goals
      go_returns
      first
        | (refine ⟨?_, (Below.refl _ _).alloc (Nat.le_refl _) _⟩; congr <;> omega)
        | (refine ⟨?_, (Below.refl _ _).alloc (Nat.le_refl _) _⟩; rfl)
        | (exfalso; omega)

theorem turned_walk (a b : Int) (w : World) :
    Calls Tryz.prog 111 #[kE a b] w fun r w' => r = .returned (kE b a) ∧ Below w.heap.size w w' := by
  unfold kE
  go_enter Tryz.func111, Tryz.ntmps111
  go_wp2
  go_returns
  exact ⟨rfl, ((Below.refl _ _).alloc (Nat.le_refl _) _).alloc (by simp) _⟩

theorem around_walk (a b c : Int) (w : World) :
    Calls Tryz.prog 91 #[.int .i64 a, .int .i64 b, .int .i64 c] w fun r w' => r = .returned (.agg #[.int .i64 a, .int .i64 b, .int .i64 b, .int .i64 c, .int .i64 c, .int .i64 a]) ∧ Below w.heap.size w w' := by
  go_enter Tryz.func91, Tryz.ntmps91
  go_wp2
  go_returns
  exact ⟨rfl, (Below.refl _ _).alloc (Nat.le_refl _) _⟩

end Go.Proofs.YtdoaniccefdkaaaGreatDoor

/- The walks of Fixed, Point, New. -/
namespace Go.Proofs.YtdoaniccefdkaaaGreatDoor
open Go.RowKit Go.Maps Go.WideMaps

theorem keptOwn {w w1 w2 : World} {mb bf n : Nat} {g : Value → Option Value} (hb : Below w1.heap.size w1 w2)
    (h : w1.cell? ⟨mb, 4, none⟩ = some (.map (some bf)) ∧ FMap Tryz.prog w1 117 bf n g ∧ Below w.heap.size w w1) :
    w2.cell? ⟨mb, 4, none⟩ = some (.map (some bf)) ∧ FMap Tryz.prog w2 117 bf n g ∧ Below w.heap.size w w2 :=
  ⟨(World.cell?_of_block (hb.block mb (World.block_lt_of_cell? _ _ h.1))).trans h.1, h.2.1.same (hb.block bf h.2.1.lt), h.2.2.trans (hb.mono h.2.2.size)⟩

theorem keptDrew3 {w w1 : World} {mb bf n : Nat} {g : Value → Option Value}
    (h : w1.cell? ⟨mb, 4, none⟩ = some (.map (some bf)) ∧ FMap Tryz.prog w1 117 bf n g ∧ Below w.heap.size w w1) :
    w1.drew.cell? ⟨mb, 4, none⟩ = some (.map (some bf)) ∧ FMap Tryz.prog w1.drew 117 bf n g ∧ Below w.heap.size w w1.drew := ⟨h.1, h.2.1, h.2.2.drew⟩

theorem i64ok_min {a b : Int} (ha : i64ok a) (hb : i64ok b) : i64ok (minI a b) ∧ i64ok (maxI a b) := by
  unfold minI maxI; split <;> exact ⟨‹_›, ‹_›⟩

/-- a look-up in a map of edges, as an equation -/
theorem lookE {w : World} {bm n : Nat} {f : Int → Int → Option Int} (h : FMap Tryz.prog w 117 bm n (edgeV f)) {a b : Int} (ha : i64ok a) (hb : i64ok b) :
    (Instr.lookup 113 (.map (some bm)) (.agg #[.int .i64 a, .int .i64 b]) true).run Tryz.prog w = .ok (.tuple #[.int .i64 ((f a b).getD 0), .bool (f a b).isSome]) w := by
  have := (h.look edgeLaw Tryz.underlying113 (zeroInt w) (keyE ha hb)).2
  rw [edgeV_getD, edgeV_isSome] at this
  exact this

set_option maxRecDepth 100000 in
set_option maxHeartbeats 2000000 in
theorem fixed_walk {w : World} {mb n : Nat} {M : MeshM} {F : Nat → Prop} (h : MeshAt w mb n M F) {a b : Int} (ha : i64ok a) (hb : i64ok b) :
    Calls Tryz.prog 22 #[.pointer (some ⟨mb, 0, none⟩), .int .i64 a, .int .i64 b] w fun r w' => r = .returned (.tuple #[.int .i64 ((M.fx (minI a b) (maxI a b)).getD 0), .bool (M.fx (minI a b) (maxI a b)).isSome]) ∧ Below w.heap.size w w' := by
  obtain ⟨ba, bs, bf, pv, sv, h⟩ := h
  have hS : w.cell? ⟨mb, 4, none⟩ = some (.map (some bf)) ∧ FMap Tryz.prog w 117 bf n (edgeV M.fx) ∧ Below w.heap.size w w := ⟨h.c4, h.fxm, Below.refl _ _⟩
  have HL := Lib.hid (fun w' (hw : FMap Tryz.prog w' 117 bf n (edgeV M.fx)) => lookE hw (i64ok_min ha hb).1 (i64ok_min ha hb).2)
  have HO := Lib.hid (own_walk a b)
  clear h ha hb
  generalize minI a b = u at *
  generalize maxI a b = v at *
  unfold kE at *
  go_enter Tryz.func22, Tryz.ntmps22
  go_wp2
  go_region_held3 (fun w' => w'.cell? ⟨mb, 4, none⟩ = some (.map (some bf)) ∧ FMap Tryz.prog w' 117 bf n (edgeV M.fx) ∧ Below w.heap.size w w') (first | assumption | exact keptDrew3 (by assumption) | go_keep)
    (first | (go_at_call 71; refine (HO.out _).mono ?_; rintro r w1 ⟨rfl, hb1⟩; have n1 := keptOwn (w := w) hb1 (by assumption); have l1 := HL.out _ n1.2.1))
  go_wp2
  go_ret2
  exact ⟨rfl, n1.2.2⟩

end Go.Proofs.YtdoaniccefdkaaaGreatDoor

/- admit.May, admit.All: which points may be. -/
namespace Go.Proofs.YtdoaniccefdkaaaGreatDoor
open Go.RowKit Tvf

set_option maxRecDepth 100000 in
set_option maxHeartbeats 1000000 in
theorem may_walk (p : Pt) (h64 : pt64 p) (w : World) :
    Calls Tryz.prog 95 #[V p] w fun r w' => r = .returned (.bool (ptOK p)) ∧ Below w.heap.size w w' := by
  obtain ⟨x, y⟩ := p
  have HX := Lib.hid (admit_coordinate x h64.1)
  have HY := Lib.hid (admit_coordinate y h64.2)
  clear h64
  unfold V ptOK
  dsimp only
  cases hx : coordB x
  · rw [hx] at HX
    go_enter Tryz.func95, Tryz.ntmps95
    go_wp2_with (go_at_call 151; (first | (with_reducible refine (HX.out _).mono ?_) | (with_reducible refine (HY.out _).mono ?_)); rintro r w1 ⟨rfl, rfl⟩)
    go_ret
    exact ⟨rfl, (Below.refl _ _).alloc (Nat.le_refl _) _⟩
  · rw [hx] at HX
    cases hy : coordB y
    all_goals
      rw [hy] at HY
      go_enter Tryz.func95, Tryz.ntmps95
      go_wp2_with (go_at_call 151; (first | (with_reducible refine (HX.out _).mono ?_) | (with_reducible refine (HY.out _).mono ?_)); rintro r w1 ⟨rfl, rfl⟩)
      go_ret
      exact ⟨rfl, (Below.refl _ _).alloc (Nat.le_refl _) _⟩

theorem notmay_walk (p : Pt) (h64 : pt64 p) (w : World) :
    Calls Tryz.prog 146 #[V p] w fun r w' => r = .returned (.bool (!ptOK p)) ∧ Below w.heap.size w w' := by
  obtain ⟨x, y⟩ := p
  have HM := Lib.hid (may_walk (x, y) h64)
  clear h64
  generalize ptOK (x, y) = ok at *
  unfold V at *
  go_enter Tryz.func146, Tryz.ntmps146
  go_wp2_with (go_at_call 95; refine (HM.out _).mono ?_; rintro r w1 ⟨rfl, hb1⟩)
  go_ret
  exact ⟨rfl, ((Below.refl _ _).alloc (Nat.le_refl _) _).trans (hb1.mono (by simp))⟩

set_option maxRecDepth 100000 in
set_option maxHeartbeats 2000000 in
theorem indexFunc_walk (l : List Pt) (ad : Option Addr) (cap : Nat) (h64 : ∀ p, p ∈ l → pt64 p) (hlen : l.length ≤ 4294967296) (w : World) (hc : PCells w ad l) :
    Calls Tryz.prog 145 #[.slice ad l.length cap, .func (.func 146) #[] #[]] w fun r w' => ∃ i : Int, r = .returned (.int .i64 i) ∧ Below w.heap.size w w' ∧ decide (i ≥ 0) = !(l.all ptOK) := by
  have HC := Lib.hid hc
  have H64 := Lib.hid h64
  clear hc h64
  go_enter Tryz.func145, Tryz.ntmps145
  go_wp2
  go_loopw [8] (fun i wr => ∃ n : Nat, n ≤ l.length ∧ i = .int .i64 n ∧ Hid ((l.take n).all ptOK = true) ∧ Below w.heap.size w wr) (fun i _ => l.length - (intOf i).toNat)
  case atStart => exact ⟨0, Nat.zero_le _, rfl, by simp [Hid], Below.refl _ _⟩
  case round =>
    obtain ⟨n, hn, rfl, HO, hbw⟩ := hrel
    by_cases hlt : n < l.length
    · obtain ⟨bb, off, rfl, hbb, hc⟩ := HC.out (by omega)
      have hcx : wr.cell? ⟨bb, off + n * 2, none⟩ = some (.float .f64 (l.getD n (0, 0)).1) := (hbw.cell (p := ⟨bb, off + n * 2, none⟩) hbb).trans (hc n hlt).1
      have hcy : wr.cell? ⟨bb, off + n * 2 + 1, none⟩ = some (.float .f64 (l.getD n (0, 0)).2) := (hbw.cell (p := ⟨bb, off + n * 2 + 1, none⟩) hbb).trans (hc n hlt).2
      clear hc
      have hm := getD_memP hlt
      have HN := Lib.hid (notmay_walk (l.getD n (0, 0)) (H64.out _ hm))
      have HT := Lib.hid (take_snocP l n hlt)
      have HALL : Hid (ptOK (l.getD n (0, 0)) = false → l.all ptOK = false) := fun h => by
        rw [List.all_eq_false]; exact ⟨_, hm, by rw [h]; simp⟩
      clear hm
      have HON : Hid (ptOK (l.getD n (0, 0)) = true → (l.take (n + 1)).all ptOK = true) := fun h => by
        rw [HT.out, List.all_append, HO.out]; simp only [List.all_cons, List.all_nil, Bool.and_true, Bool.true_and]; exact h
      clear HT
      generalize l.getD n (0, 0) = p at *
      generalize ptOK p = ok at *
      obtain ⟨x, y⟩ := p
      unfold V at HN
      dsimp only at hcx hcy
      cases ok
      · have HF := Lib.hid (HALL.out rfl)
        go_wp2_with (go_at_call 146; refine (HN.out _).mono ?_; rintro r w1 ⟨rfl, hb1⟩)
        go_ret
        refine ⟨n, rfl, hbw.trans (hb1.mono hbw.size), ?_⟩
        rw [HF.out]; simp
      · have HF := Lib.hid (HON.out rfl)
        go_wp2_with (go_at_call 146; refine (HN.out _).mono ?_; rintro r w1 ⟨rfl, hb1⟩)
        go_roundw
        case rel => exact ⟨n + 1, by omega, by rfl, HF, hbw.trans (hb1.mono hbw.size)⟩
        case measure => simp [intOf]; omega
    · have e : n = l.length := by omega
      subst e
      have HF : Hid (l.all ptOK = true) := by
        have := HO.out
        rw [List.take_length] at this; exact this
      go_wp2
      go_ret
      refine ⟨-1, rfl, hbw, ?_⟩
      rw [HF.out]; rfl

/-- what admit.All answers -/
def allCode (l : List Pt) : Int := if 1048576 < l.length then 3 else if l.all ptOK then 0 else 10

set_option maxRecDepth 100000 in
set_option maxHeartbeats 1000000 in
theorem admitAll_walk (l : List Pt) (ad : Option Addr) (cap : Nat) (h64 : ∀ p, p ∈ l → pt64 p) (w : World) (hc : PCells w ad l) :
    Calls Tryz.prog 87 #[.slice ad l.length cap] w fun r w' => ∃ i : Int, r = .returned (.tuple #[.int .i64 i, .int .i64 (allCode l)]) ∧ Below w.heap.size w w' := by
  have HI := Lib.hid (fun h => indexFunc_walk l ad cap h64 h w hc)
  unfold allCode
  clear h64 hc
  by_cases hl : 1048576 < l.length
  · rw [if_pos hl]
    go_enter Tryz.func87, Tryz.ntmps87
    go_wp2
    go_ret2
    exact ⟨0, rfl, Below.refl _ _⟩
  · rw [if_neg hl]
    have HI2 := Lib.hid (HI.out (by omega))
    clear HI
    cases hk : l.all ptOK
    all_goals
      rw [hk] at HI2
      go_enter Tryz.func87, Tryz.ntmps87
      go_wp2_with (go_at_call 145; refine HI2.out.mono ?_; rintro r w1 ⟨i, rfl, hb1, hi⟩; simp only [Bool.not_true, Bool.not_false, decide_eq_true_eq, decide_eq_false_iff_not] at hi)
      go_ret2
      first | exact ⟨⟨_, rfl⟩, hb1⟩ | exact ⟨_, rfl, hb1⟩ | (exfalso; omega)

end Go.Proofs.YtdoaniccefdkaaaGreatDoor

/- slices.Clone of points; mesh.New. -/
namespace Go.Proofs.YtdoaniccefdkaaaGreatDoor
open Go.RowKit Go.Maps Go.WideMaps

theorem infoPt : (Tryz.prog.info? 52).map (fun i => (i.zero, i.size, i.bytes)) = some (some (.agg #[.float .f64 0, .float .f64 0]), 2, 16) := by kernel_rfl

theorem cellsP_get (l : List Pt) (j : Nat) : (cellsP l)[j]? = if j < l.length * 2 then some (.float .f64 (if j % 2 = 0 then (l.getD (j / 2) (0, 0)).1 else (l.getD (j / 2) (0, 0)).2)) else none := by
  split
  · rename_i h
    have := cellsP_at l (j / 2) (by omega)
    split
    · have e : j = j / 2 * 2 := by omega
      conv => lhs; rw [e]
      exact this.1
    · have e : j = j / 2 * 2 + 1 := by omega
      conv => lhs; rw [e]
      exact this.2
  · rename_i h
    rw [List.getElem?_eq_none (by rw [cellsP_len]; omega)]

theorem cellsP_one (l : List Pt) : ∀ u ∈ cellsP l, u.oneCell' = true := by
  intro u hu
  unfold cellsP at hu
  obtain ⟨p, _, hp⟩ := List.mem_flatMap.1 hu
  simp at hp
  rcases hp with rfl | rfl <;> rfl

theorem PCells.cell {w : World} {b off : Nat} {l : List Pt} (h : PCells w (some ⟨b, off, none⟩) l) : ∀ j u, (cellsP l)[j]? = some u → w.cell? ⟨b, off + j, none⟩ = some u := by
  intro j u hu
  rw [cellsP_get] at hu
  split at hu
  · rename_i hj
    obtain ⟨b', off', e, _, hc⟩ := h (by omega)
    cases e
    have := hc (j / 2) (by omega)
    cases hu
    split
    · have e : j = j / 2 * 2 := by omega
      conv => lhs; rw [e]
      exact this.1
    · have e : off + j = off + j / 2 * 2 + 1 := by omega
      conv => lhs; rw [e]
      exact this.2
  · cases hu

set_option maxRecDepth 100000 in
set_option maxHeartbeats 1000000 in
theorem clone_nil (cap : Nat) (w : World) :
    Calls Tryz.prog 88 #[.slice none 0 cap] w fun e w' => e = .returned (.slice none 0 0) ∧ w' = w := by
  have q22 : ∀ (w : World) (a : Option Addr) (n c n' c' : Nat), (binOp .eql 22 (.slice a n c) (.slice none n' c')).run Tryz.prog w = .ok (.bool a.isNone) w := fun w a n c n' c' => Lib.run_eql_slice_nil w _ _ a n c n' c' Tryz.underlying22
  go_enter Tryz.func88, Tryz.ntmps88
  go_wp2
  go_ret
  exact ⟨rfl, rfl⟩

set_option maxRecDepth 100000 in
set_option maxHeartbeats 1000000 in
theorem clone_some (l : List Pt) (a : Addr) (cap : Nat) (hl : l.length ≤ 1048576) (w : World) (hc : ∀ j u, (cellsP l)[j]? = some u → w.cell? (a.add j) = some u) :
    Calls Tryz.prog 88 #[.slice (some a) l.length cap] w fun e w' => ∃ v', e = .returned v' ∧ w'.ownsRow w.heap.size 52 2 v' l.length (cellsP l) ∧ Below w.heap.size w w' := by
  obtain ⟨i0, hi, hz0, hz1, hz2⟩ := info_parts infoPt
  have HC := Lib.hid hc
  clear hc
  have h1 := Lib.hid (cellsP_one l)
  have hlen := Lib.hid (cellsP_len l)
  have q22 : ∀ (w : World) (a : Option Addr) (n c n' c' : Nat), (binOp .eql 22 (.slice a n c) (.slice none n' c')).run Tryz.prog w = .ok (.bool a.isNone) w := fun w a n c n' c' => Lib.run_eql_slice_nil w _ _ a n c n' c' Tryz.underlying22
  go_enter Tryz.func88, Tryz.ntmps88
  go_wp2_with (at_builtin; refine wpList_append_own _ rfl _ _ 22 rfl w.heap.size 52 i0 (.agg #[.float .f64 0, .float .f64 0]) 2 16 Tryz.underlying22 hi hz0 hz1 hz2 rfl (by decide) _ _ _ rfl (World.ownsRow_made w #[] 0 (Nat.le_refl _) (Nat.zero_le _) (by simp)) a l.length cap (cellsP l) rfl ?qc1 ?qc2 ?qc3 ?qc4 ?qc5 ?qc6 ?_)
  case qc1 => exact hlen.out
  case qc2 => intro j u hj; exact Lib.cell?_alloc_some _ (HC.out j u hj)
  case qc3 => exact h1.out
  case qc4 => unfold maxLen; omega
  case qc5 => omega
  case qc6 => simp
  intro v' w1 hown hgrow hnil
  go_wp2
  go_ret
  refine ⟨v', rfl, by simpa using hown, ((Below.refl _ w).alloc (Nat.le_refl _) _).grown hgrow (by simp) (by intro k hk; simp [Value.ownBlock] at hk; omega)⟩

theorem clone_walk (l : List Pt) (ad : Option Addr) (cap : Nat) (hl : l.length ≤ 1048576) (w : World) (hc : PCells w ad l) :
    Calls Tryz.prog 88 #[.slice ad l.length cap] w fun e w' => ∃ v', e = .returned v' ∧ w'.ownsRow w.heap.size 52 2 v' l.length (cellsP l) ∧ Below w.heap.size w w' := by
  cases ad with
  | none =>
    have h0 : l.length = 0 := by
      apply Classical.byContradiction; intro h
      obtain ⟨_, _, e, _⟩ := hc (by omega)
      cases e
    rw [h0]
    refine (clone_nil cap w).mono ?_
    rintro r w' ⟨rfl, rfl⟩
    have : l = [] := List.length_eq_zero_iff.1 h0
    subst this
    exact ⟨_, rfl, World.ownsRow_nil _ _ _ _, Below.refl _ _⟩
  | some a =>
    refine clone_some l a cap hl w ?_
    intro j u hu
    have hj : 0 < l.length := by
      rw [cellsP_get] at hu
      split at hu
      · omega
      · cases hu
    obtain ⟨b, off, e, _⟩ := hc hj
    cases e
    rw [Addr.add_lit]
    exact hc.cell j u hu

end Go.Proofs.YtdoaniccefdkaaaGreatDoor

/- mesh.New. -/
namespace Go.Proofs.YtdoaniccefdkaaaGreatDoor
open Go.RowKit Go.Maps Go.WideMaps

theorem ownsRow_shape {w : World} {base e size n : Nat} {v : Value} {xs : List Value} (h : w.ownsRow base e size v n xs) : ∃ ad cap, v = .slice ad n cap := by
  rcases h.2 with ⟨h1, h2⟩ | ⟨g, cap, cur, h1, _⟩
  · exact ⟨none, 0, by rw [h2]; exact h1⟩
  · exact ⟨_, _, h1⟩

theorem ownsRow_down {w : World} {base base' e size n : Nat} {v : Value} {xs : List Value} (hb : base' ≤ base) (h : w.ownsRow base e size v n xs) : w.ownsRow base' e size v n xs := by
  refine ⟨h.1, ?_⟩
  rcases h.2 with h1 | ⟨g, cap, cur, h1, h2, h3⟩
  · exact .inl h1
  · exact .inr ⟨g, cap, cur, h1, Nat.le_trans hb h2, h3⟩

def emptyM (l : List Pt) : MeshM := ⟨l, fun _ _ => none, fun _ => [], 0, fun _ _ => none⟩

set_option maxRecDepth 100000 in
set_option maxHeartbeats 1000000 in
theorem new_bad (l : List Pt) (ad : Option Addr) (cap : Nat) (h64 : ∀ p, p ∈ l → pt64 p) (hk : allCode l ≠ 0) (w : World) (hc : PCells w ad l) :
    Calls Tryz.prog 27 #[.slice ad l.length cap] w fun r w' => r = .returned (.tuple #[.pointer none, .int .i64 (allCode l)]) ∧ Below w.heap.size w w' := by
  have HA := Lib.hid (admitAll_walk l ad cap h64 w hc)
  clear h64 hc
  generalize allCode l = e at *
  go_enter Tryz.func27, Tryz.ntmps27
  go_wp2_with (go_at_call 87; refine HA.out.mono ?_; rintro r w1 ⟨i, rfl, hb1⟩)
  go_ret2
  exact ⟨rfl, hb1⟩

theorem edgeV_none : edgeV (fun _ _ => none) = fun _ => none := by
  funext v
  apply Classical.byContradiction; intro h
  obtain ⟨x, rfl⟩ := edgeV_ne h
  exact h rfl
theorem intV_none : intV (fun _ => none) = fun _ => none := by
  funext v
  apply Classical.byContradiction; intro h
  obtain ⟨x, rfl⟩ := intV_ne h
  exact h rfl

theorem new_parts (l : List Pt) (w w2 : World) (v' : Value) (hs : w.heap.size ≤ w2.heap.size) (h : w2.ownsRow w.heap.size 52 2 v' l.length (cellsP l)) :
    MeshAt ((((w2.alloc (.map #[] 0)).alloc (.map #[] 0)).alloc (.map #[] 0)).alloc (.cells #[v', .map (some w2.heap.size), .map (some (w2.heap.size + 1)), .int .i64 0, .map (some (w2.heap.size + 1 + 1))] 116)) (w2.heap.size + 1 + 1 + 1) 0 (emptyM l) (fun i => w.heap.size ≤ i ∧ i < w2.heap.size + 1 + 1 + 1 + 1) := by
  have e1 : (w2.alloc (.map #[] 0)).heap.size = w2.heap.size + 1 := by simp
  have e2 : ((w2.alloc (.map #[] 0)).alloc (.map #[] 0)).heap.size = w2.heap.size + 1 + 1 := by simp
  have e3 : (((w2.alloc (.map #[] 0)).alloc (.map #[] 0)).alloc (.map #[] 0)).heap.size = w2.heap.size + 1 + 1 + 1 := by simp
  have hcell : ∀ i, ((((w2.alloc (.map #[] 0)).alloc (.map #[] 0)).alloc (.map #[] 0)).alloc (.cells #[v', .map (some w2.heap.size), .map (some (w2.heap.size + 1)), .int .i64 0, .map (some (w2.heap.size + 1 + 1))] 116)).cell? ⟨w2.heap.size + 1 + 1 + 1, i, none⟩ = #[v', .map (some w2.heap.size), .map (some (w2.heap.size + 1)), .int .i64 0, .map (some (w2.heap.size + 1 + 1))][i]? := by
    intro i; rw [World.cell?_alloc_at _ _ _ _ e3.symm]
  have hown := ((h.alloc (.map #[] 0)).alloc (.map #[] 0)).alloc (.map #[] 0) |>.alloc (.cells #[v', .map (some w2.heap.size), .map (some (w2.heap.size + 1)), .int .i64 0, .map (some (w2.heap.size + 1 + 1))] 116)
  have hlt := h.lt
  refine ⟨w2.heap.size, w2.heap.size + 1, w2.heap.size + 1 + 1, v', fun _ => none, ?_⟩
  refine ⟨hcell 0, hcell 1, hcell 2, hcell 3, hcell 4, ?_, ⟨hown.1, ?_⟩, ?_, ?_, ?_, ⟨fun _ _ => rfl, fun _ _ h => (nomatch h), fun _ _ _ _ _ h => (nomatch h), fun _ _ _ h => (nomatch h)⟩, by omega, by omega, by omega, ?_, ?_, ?_, ?_, ?_, ?_, ?_, fun _ => Nat.le_refl _, by simp [emptyM]⟩
  · intro i
    unfold World.frozen?
    have := heap_alloc_new (((w2.alloc (.map #[] 0)).alloc (.map #[] 0)).alloc (.map #[] 0)) (.cells #[v', .map (some w2.heap.size), .map (some (w2.heap.size + 1)), .int .i64 0, .map (some (w2.heap.size + 1 + 1))] 116)
    rw [e3] at this
    rw [this]; simp
  · rcases hown.2 with h1 | ⟨g, cap, cur, h1, h2, h3⟩
    · exact .inl h1
    · exact .inr ⟨g, cap, cur, h1, Nat.zero_le _, h3⟩
  · rw [show edgeV (emptyM l).ap = fun _ => none from edgeV_none]
    exact (((FMap.made _ _ _).kept (World.grownBy_alloc _ _ none) (by simp)).kept (World.grownBy_alloc _ _ none) (by simp)).kept (World.grownBy_alloc _ _ none) (by simp)
  · rw [intV_none]
    have := ((FMap.made Tryz.prog (w2.alloc (.map #[] 0)) 3).kept (World.grownBy_alloc _ (.map #[] 0) none) (by simp)).kept (World.grownBy_alloc _ (.cells #[v', .map (some w2.heap.size), .map (some (w2.heap.size + 1)), .int .i64 0, .map (some (w2.heap.size + 1 + 1))] 116) none) (by simp)
    rw [e1] at this; exact this
  · rw [show edgeV (emptyM l).fx = fun _ => none from edgeV_none]
    have := (FMap.made Tryz.prog ((w2.alloc (.map #[] 0)).alloc (.map #[] 0)) 117).kept (World.grownBy_alloc _ (.cells #[v', .map (some w2.heap.size), .map (some (w2.heap.size + 1)), .int .i64 0, .map (some (w2.heap.size + 1 + 1))] 116) none) (by simp)
    rw [e2] at this; exact this
  · intro e
    have := (hlt _ e).2; omega
  · exact ⟨by omega, by omega⟩
  · exact ⟨by omega, by omega⟩
  · exact ⟨by omega, by omega⟩
  · exact ⟨by omega, by omega⟩
  · exact fun g hg => ⟨(hlt g hg).1, by have := (hlt g hg).2; omega⟩
  · intro g hg; simp; omega

set_option maxRecDepth 100000 in
set_option maxHeartbeats 1000000 in
theorem new_ok (l : List Pt) (ad : Option Addr) (cap : Nat) (h64 : ∀ p, p ∈ l → pt64 p) (hk : allCode l = 0) (hl : l.length ≤ 1048576) (w : World) (hc : PCells w ad l) :
    Calls Tryz.prog 27 #[.slice ad l.length cap] w fun r w' => ∃ mb, r = .returned (.tuple #[.pointer (some ⟨mb, 0, none⟩), .int .i64 0]) ∧ MeshAt w' mb 0 (emptyM l) (fun i => w.heap.size ≤ i ∧ i < w'.heap.size) ∧ Below w.heap.size w w' := by
  have HA := Lib.hid (admitAll_walk l ad cap h64 w hc)
  rw [hk] at HA
  have HC := Lib.hid (fun w1 (hb : Below w.heap.size w w1) => clone_walk l ad cap hl w1 (hc.below hb))
  have HP := Lib.hid (new_parts l)
  clear h64 hc hk hl
  have hmm := @run_makeMap Tryz.prog
  go_enter Tryz.func27, Tryz.ntmps27
  go_wp2_with (first
    | (go_at_call 87; refine HA.out.mono ?_; rintro r w1 ⟨i, rfl, hb1⟩)
    | (go_at_call 88; refine (HC.out _ hb1).mono ?_; rintro r w2 ⟨v', rfl, hown2, hb2⟩; obtain ⟨ad2, cap2, rfl⟩ := ownsRow_shape hown2))
  go_ret2
  have s2 : w.heap.size ≤ w2.heap.size := Nat.le_trans hb1.size hb2.size
  refine ⟨_, rfl, ?_, ?_⟩
  · have := HP.out w w2 _ s2 (ownsRow_down hb1.size hown2)
    simpa using this
  · exact ((((hb1.trans (hb2.mono hb1.size)).alloc s2 _).alloc (by simp; omega) _).alloc (by simp; omega) _).alloc (by simp; omega) _

end Go.Proofs.YtdoaniccefdkaaaGreatDoor
