/- The abstract machine, 1 (quick): a tree of numbers; abstract values; what concrete value an abstract one stands for. -/
import Derived.RangeFuncLeaves
import Derived.OrdersIn
import Derived.Below
import Derived.OneCell
import Derived.Laws.Sem
set_option linter.unusedVariables false
set_option linter.unusedSimpArgs false
namespace Go.Ab

/-- A number as a path. -/
inductive Pa where
  | z
  | l (p : Pa)
  | r (p : Pa)
namespace Pa
def toNat : Pa → Nat
  | z => 0
  | l p => 2 * p.toNat + 1
  | r p => 2 * p.toNat + 2
noncomputable def succ (p : Pa) : Pa := Pa.rec (motive := fun _ => Pa) (.l .z) (fun p _ => .r p) (fun _ ih => .l ih) p
noncomputable def ofNat (n : Nat) : Pa := Nat.rec (motive := fun _ => Pa) .z (fun _ ih => succ ih) n
theorem toNat_succ (p : Pa) : (succ p).toNat = p.toNat + 1 := by
  induction p with
  | z => rfl
  | l p _ => rfl
  | r p ih =>
    show (Pa.l (succ p)).toNat = _
    simp only [toNat, ih]; omega
theorem toNat_ofNat (n : Nat) : (ofNat n).toNat = n := by
  induction n with
  | zero => rfl
  | succ n ih => show (succ (ofNat n)).toNat = _; rw [toNat_succ, ih]
theorem toNat_inj : ∀ {p q : Pa}, p.toNat = q.toNat → p = q
  | z, z, _ => rfl
  | z, l q, h => by simp only [toNat] at h; omega
  | z, r q, h => by simp only [toNat] at h; omega
  | l p, z, h => by simp only [toNat] at h; omega
  | l p, l q, h => by simp only [toNat] at h; rw [toNat_inj (show p.toNat = q.toNat by omega)]
  | l p, r q, h => by simp only [toNat] at h; omega
  | r p, z, h => by simp only [toNat] at h; omega
  | r p, l q, h => by simp only [toNat] at h; omega
  | r p, r q, h => by simp only [toNat] at h; rw [toNat_inj (show p.toNat = q.toNat by omega)]
theorem ofNat_inj {m n : Nat} (h : ofNat m = ofNat n) : m = n := by rw [← toNat_ofNat m, h, toNat_ofNat]
noncomputable instance : DecidableEq Pa := fun p q => if h : p.toNat = q.toNat then isTrue (toNat_inj h) else isFalse fun e => h (e ▸ rfl)
/-- The same? -/
noncomputable def same (p : Pa) : Pa → Bool := Pa.rec (motive := fun _ => Pa → Bool)
  (fun q => Pa.rec (motive := fun _ => Bool) true (fun _ _ => false) (fun _ _ => false) q)
  (fun _ ih q => Pa.rec (motive := fun _ => Bool) false (fun q _ => ih q) (fun _ _ => false) q)
  (fun _ ih q => Pa.rec (motive := fun _ => Bool) false (fun _ _ => false) (fun q _ => ih q) q) p
theorem same_eq (p q : Pa) : same p q = decide (p = q) := by
  induction p generalizing q with
  | z => cases q <;> simp [same]
  | l p ih => cases q with
    | z => simp [same]
    | l q => show same p q = _; rw [ih]; simp
    | r q => simp [same]
  | r p ih => cases q with
    | z => simp [same]
    | l q => simp [same]
    | r q => show same p q = _; rw [ih]; simp
end Pa

/-- A tree of what stands at paths. -/
inductive PT (α : Type) where
  | leaf
  | node (l : PT α) (v : Option α) (r : PT α)

namespace PT
variable {α : Type}
noncomputable def get (t : PT α) : Pa → Option α := PT.rec (motive := fun _ => Pa → Option α) (fun _ => none)
  (fun _ v _ gl gr p => Pa.rec (motive := fun _ => Option α) v (fun p _ => gl p) (fun p _ => gr p) p) t
noncomputable def put (t : PT α) (p : Pa) (x : α) : PT α := Pa.rec (motive := fun _ => PT α → PT α)
  (fun t => PT.rec (motive := fun _ => PT α) (node leaf (some x) leaf) (fun l _ r _ _ => node l (some x) r) t)
  (fun _ ih t => PT.rec (motive := fun _ => PT α) (node (ih leaf) none leaf) (fun l v r _ _ => node (ih l) v r) t)
  (fun _ ih t => PT.rec (motive := fun _ => PT α) (node leaf none (ih leaf)) (fun l v r _ _ => node l v (ih r)) t) p t
theorem get_leaf (p : Pa) : get (leaf : PT α) p = none := rfl
theorem get_put (t : PT α) (p : Pa) (x : α) (q : Pa) : (put t p x).get q = if q = p then some x else t.get q := by
  induction p generalizing t q with
  | z => cases t <;> cases q <;> simp [get, put]
  | l p ih =>
    cases t with
    | leaf => cases q with
      | z => rfl
      | l q => show (put leaf p x).get q = _; rw [ih]; simp [get_leaf]
      | r q => simp [get, put]
    | node a v b => cases q with
      | z => rfl
      | l q => show (put a p x).get q = _; rw [ih]; simp [get]
      | r q => simp [get, put]
  | r p ih =>
    cases t with
    | leaf => cases q with
      | z => rfl
      | l q => simp [get, put]
      | r q => show (put leaf p x).get q = _; rw [ih]; simp [get_leaf]
    | node a v b => cases q with
      | z => rfl
      | l q => simp [get, put]
      | r q => show (put b p x).get q = _; rw [ih]; simp [get]
end PT

/-- Abstract values. 'ptr', 'slice', 'map', 'yield' name abstract blocks. A slice's capacity: exact (op = none), or at least so much (op = some z: z cells an element). -/
inductive AV where
  | any
  | bool (b : Bool)
  | anyBool
  | int (k : IntKind) (n : Int)
  | rng (k : IntKind) (lo hi : Int)
  | str (len : Nat) (n : Nat)
  | ptr (b : Pa) (off : Nat)
  | nilPtr
  | slice (b : Pa) (off len cap : Nat) (op : Option Nat)
  | nilSlice
  | emptySlice
  | map (r : Pa)
  | nilMap
  | func (f : Nat) (captured : List AV)
  | yield (l : Pa)
  | nilFunc
  | nilIface
  | agg (cs : List AV)
  | tuple (vs : List AV)

/-- The bytes of a string: byte i is the i-th digit to base 256. -/
def strL (len n : Nat) : List UInt8 := (List.range len).map fun i => UInt8.ofNat (n / 256 ^ i % 256)
def strB (len n : Nat) : ByteArray := ⟨(strL len n).toArray⟩

/-- Where an abstract block lies: the concrete block, from which cell on, how many cells the concrete block has. -/
structure Loc where
  c : Nat
  s : Nat
  n : Nat
abbrev Rho := Pa → Option Loc

mutual
/-- The concrete value 'v' is one for which the abstract one stands. -/
def VR (ρ : Rho) : AV → Value → Prop
  | .any, _ => True
  | .bool b, v => v = .bool b
  | .anyBool, v => ∃ b, v = .bool b
  | .int k n, v => v = .int k n
  | .rng k lo hi, v => ∃ n, v = .int k n ∧ lo ≤ n ∧ n ≤ hi
  | .str len n, v => v = .string (strB len n)
  | .ptr b off, v => ∃ l, ρ b = some l ∧ v = .pointer (some ⟨l.c, l.s + off, none⟩)
  | .nilPtr, v => v = .pointer none
  | .slice b off len cap op, v => ∃ l cap', ρ b = some l ∧ v = .slice (some ⟨l.c, l.s + off, none⟩) len cap' ∧ cap ≤ cap' ∧ (op = none → cap' = cap) ∧ ∀ z, op = some z → l.s + off + cap' * z ≤ l.n
  | .nilSlice, v => v = .slice none 0 0
  | .emptySlice, v => ∃ a cap', v = .slice (some a) 0 cap'
  | .map r, v => ∃ l, ρ r = some l ∧ v = .map (some l.c)
  | .nilMap, v => v = .map none
  | .func f cap, v => ∃ vs : Array Value, v = .func (.func f) #[] vs ∧ VRs ρ cap vs.toList
  | .yield r, v => ∃ l, ρ r = some l ∧ v = .func (.yield l.c) #[] #[]
  | .nilFunc, v => v = .nilFunc
  | .nilIface, v => v = .nilIface
  | .agg cs, v => ∃ vs : Array Value, v = .agg vs ∧ VRs ρ cs vs.toList ∧ ∀ u ∈ vs.toList, u.oneCell' = true
  | .tuple cs, v => ∃ vs : Array Value, v = .tuple vs ∧ VRs ρ cs vs.toList
def VRs (ρ : Rho) : List AV → List Value → Prop
  | [], vs => vs = []
  | a :: as, vs => ∃ v vs', vs = v :: vs' ∧ VR ρ a v ∧ VRs ρ as vs'
end

/-- 'ρ'' knows all that 'ρ' knows. -/
def Rho.le (ρ ρ' : Rho) : Prop := ∀ b x, ρ b = some x → ρ' b = some x
theorem Rho.le_refl (ρ : Rho) : ρ.le ρ := fun _ _ h => h
theorem Rho.le.trans {ρ ρ' ρ'' : Rho} (h : ρ.le ρ') (h' : ρ'.le ρ'') : ρ.le ρ'' := fun b x hb => h' b x (h b x hb)

mutual
theorem VR.mono {ρ ρ' : Rho} (h : ρ.le ρ') : ∀ (a : AV) (v : Value), VR ρ a v → VR ρ' a v
  | .any, _, _ => trivial
  | .bool b, v, hv => by simpa [VR] using hv
  | .anyBool, v, hv => by simpa [VR] using hv
  | .int k n, v, hv => by simpa [VR] using hv
  | .rng k lo hi, v, hv => by simpa [VR] using hv
  | .str len n, v, hv => by simpa [VR] using hv
  | .ptr b off, v, hv => by simp only [VR] at hv ⊢; obtain ⟨l, hb, hv⟩ := hv; exact ⟨l, h _ _ hb, hv⟩
  | .nilPtr, v, hv => by simpa [VR] using hv
  | .slice b off len cap op, v, hv => by simp only [VR] at hv ⊢; obtain ⟨l, cap', hb, hv⟩ := hv; exact ⟨l, cap', h _ _ hb, hv⟩
  | .nilSlice, v, hv => by simpa [VR] using hv
  | .emptySlice, v, hv => by simpa [VR] using hv
  | .map r, v, hv => by simp only [VR] at hv ⊢; obtain ⟨l, hb, hv⟩ := hv; exact ⟨l, h _ _ hb, hv⟩
  | .nilMap, v, hv => by simpa [VR] using hv
  | .func f cap, v, hv => by simp only [VR] at hv ⊢; obtain ⟨vs, hv, hs⟩ := hv; exact ⟨vs, hv, VRs.mono h _ _ hs⟩
  | .yield l, v, hv => by simp only [VR] at hv ⊢; obtain ⟨l, hb, hv⟩ := hv; exact ⟨l, h _ _ hb, hv⟩
  | .nilFunc, v, hv => by simpa [VR] using hv
  | .nilIface, v, hv => by simpa [VR] using hv
  | .agg cs, v, hv => by simp only [VR] at hv ⊢; obtain ⟨vs, hv, hs, ho⟩ := hv; exact ⟨vs, hv, VRs.mono h _ _ hs, ho⟩
  | .tuple cs, v, hv => by simp only [VR] at hv ⊢; obtain ⟨vs, hv, hs⟩ := hv; exact ⟨vs, hv, VRs.mono h _ _ hs⟩
theorem VRs.mono {ρ ρ' : Rho} (h : ρ.le ρ') : ∀ (as : List AV) (vs : List Value), VRs ρ as vs → VRs ρ' as vs
  | [], vs, hv => by simpa [VRs] using hv
  | a :: as, vs, hv => by
    simp only [VRs] at hv ⊢
    obtain ⟨v, vs', e, h1, h2⟩ := hv
    exact ⟨v, vs', e, VR.mono h _ _ h1, VRs.mono h _ _ h2⟩
end
end Go.Ab
