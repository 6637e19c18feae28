/- What the program's functions without a body are; awake() answers true and leaves all as it was. -/
import Derived.Test.YtbnieocmjafidaaGreatChecked
import Derived.Test.YtbnieocmjafidaaGreatAc32
import Derived.Laws.LoneSync
import Derived.KernelRfl
set_option linter.unusedVariables false
set_option linter.unusedSimpArgs false
namespace Go.Proofs.YtbnieocmjafidaaGreat
open Go.Ab

def entA (f : FuncId) : EK := bif Nat.beq f 105 then .load .i64 else bif Nat.beq f 294 then .store else bif Nat.beq f 106 then .add .i64 else .go
def H0 : AH := ⟨.leaf, .z⟩
def isTrue (v : AV) : Bool := match v with
  | .bool b => b
  | _ => false
theorem names_ok : (Tryz.prog.funcs.toList.all fun fn => !(fn.name == "runtime.NumGoroutine")) = true := by kernel_rfl
theorem mixed : Tryz.prog.follows .mixedOrders = true := by kernel_rfl
theorem name_of (f : FuncId) (fn : Func) (h : Tryz.prog.funcs[f]? = some fn) : (fn.name == "runtime.NumGoroutine") = false := by
  have hm : fn ∈ Tryz.prog.funcs.toList := by simpa using Array.mem_of_getElem? h
  simpa using List.all_eq_true.1 names_ok fn hm
theorem entA_load {f : FuncId} {k : IntKind} (h : entA f = .load k) : f = 105 ∧ k = .i64 := by
  unfold entA at h
  by_cases h1 : f = 105
  · subst h1; cases h; exact ⟨rfl, rfl⟩
  · rw [nbeq, decide_eq_false h1] at h
    by_cases h2 : f = 294
    · subst h2; cases h
    · rw [nbeq, decide_eq_false h2] at h
      by_cases h3 : f = 106
      · subst h3; cases h
      · rw [nbeq, decide_eq_false h3] at h; cases h
theorem entA_store {f : FuncId} (h : entA f = .store) : f = 294 := by
  unfold entA at h
  by_cases h1 : f = 105
  · subst h1; cases h
  · rw [nbeq, decide_eq_false h1] at h
    by_cases h2 : f = 294
    · exact h2
    · rw [nbeq, decide_eq_false h2] at h
      by_cases h3 : f = 106
      · subst h3; cases h
      · rw [nbeq, decide_eq_false h3] at h; cases h
theorem entA_add {f : FuncId} {k : IntKind} (h : entA f = .add k) : f = 106 ∧ k = .i64 := by
  unfold entA at h
  by_cases h1 : f = 105
  · subst h1; cases h
  · rw [nbeq, decide_eq_false h1] at h
    by_cases h2 : f = 294
    · subst h2; cases h
    · rw [nbeq, decide_eq_false h2] at h
      by_cases h3 : f = 106
      · subst h3; cases h; exact ⟨rfl, rfl⟩
      · rw [nbeq, decide_eq_false h3] at h; cases h
theorem entA_known {f : FuncId} {g : List AV → AH → Option (AV × AH)} (h : entA f = .known g) : False := by
  unfold entA at h
  by_cases h1 : f = 105
  · subst h1; cases h
  · rw [nbeq, decide_eq_false h1] at h
    by_cases h2 : f = 294
    · subst h2; cases h
    · rw [nbeq, decide_eq_false h2] at h
      by_cases h3 : f = 106
      · subst h3; cases h
      · rw [nbeq, decide_eq_false h3] at h; cases h
theorem load_ok (a : Addr) (x : Int) (w : World) (h : w.cell? a = some (.int .i64 x)) : (callFunc 105 #[.pointer (some a)]).run Tryz.prog w = .ok (.value (.int .i64 x)) w :=
  run_call_load (P := Tryz.prog) (f := 105) Tryz.func105 (by kernel_rfl) (by kernel_rfl) (by kernel_rfl) .i64 (by rfl) h
theorem store_ok (a : Addr) (k : IntKind) (y : Int) (u : Value) (w : World) (h : w.cell? a = some u) (hz : w.frozen? a = false) : (callFunc 294 #[.pointer (some a), .int k y]).run Tryz.prog w = .ok (.value (.tuple #[])) (w.setCell a (.int k y)) :=
  run_call_store (P := Tryz.prog) (f := 294) Tryz.func294 (by kernel_rfl) (by kernel_rfl) (by kernel_rfl) (by rfl) h hz
theorem add_ok (a : Addr) (x y : Int) (w : World) (h : w.cell? a = some (.int .i64 x)) (hz : w.frozen? a = false) : (callFunc 106 #[.pointer (some a), .int .i64 y]).run Tryz.prog w = .ok (.value (.int .i64 (IntKind.i64.wrap (x + y)))) (w.setCell a (.int .i64 (IntKind.i64.wrap (x + y)))) :=
  run_call_add (P := Tryz.prog) (f := 106) Tryz.func106 (by kernel_rfl) (by kernel_rfl) (by kernel_rfl) .i64 (by rfl) h hz rfl
theorem entA_ok : EntOk Tryz.prog entA where
  name := name_of
  load := fun f k h a x w hc => by obtain ⟨rfl, rfl⟩ := entA_load h; exact load_ok a x w hc
  store := fun f h a k y u w hc hz => by obtain rfl := entA_store h; exact store_ok a k y u w hc hz
  add := fun f k h a x y w hc hz => by obtain ⟨rfl, rfl⟩ := entA_add h; exact add_ok a x y w hc hz
  known := fun f g h => (entA_known h).elim

/-- awake(), once it has been found to answer true, as a contract: it leaves what was there as it was. -/
def awakeK (args : List AV) (H : AH) : Option (AV × AH) := match args with
  | [] => some (.bool true, H)
  | _ => none
def entB (f : FuncId) : EK := bif Nat.beq f 6 then .known awakeK else entA f
def AwakeRuns : Prop := (level Tryz.prog entA 200).call 6 [] H0 (fun v _ => isTrue v) = true
theorem below_sim {n0 : Nat} {ρ : Rho} {H : AH} {w w' : World} (hr : HR Tryz.prog n0 ρ H w) (hb : RowKit.Below w.heap.size w w') : Sim Tryz.prog n0 ρ H w ρ H w' :=
  have same : ∀ c, c < w.heap.size → w'.heap[c]? = w.heap[c]? := hb.block
  ⟨Rho.le_refl _, ⟨⟨hr.inj, fun b l h => by
    obtain ⟨h1, o, h2, h3⟩ := hr.blk b l h
    exact ⟨h1, o, by rw [same _ (Array.getElem?_eq_some_iff.1 h2).1]; exact h2, h3⟩⟩, hr.fresh, hr.top⟩, Nat.le_refl _, fun _ _ h => ⟨h, rfl⟩, fun c hc _ => same c hc, fun b l h => .inr ⟨b, l, h, rfl⟩, hb.size, hb.os, hb.tape, hb.output⟩
theorem entB_ok (hA : AwakeRuns) : EntOk Tryz.prog entB := by
  have other : ∀ f, f ≠ 6 → entB f = entA f := fun f h => by unfold entB; rw [nbeq, decide_eq_false h]; rfl
  have six : entB 6 = .known awakeK := rfl
  refine ⟨name_of, fun f k h => ?_, fun f h => ?_, fun f k h => ?_, fun f g h => ?_⟩
  · by_cases e : f = 6
    · subst e; rw [six] at h; cases h
    · rw [other f e] at h; exact entA_ok.load f k h
  · by_cases e : f = 6
    · subst e; rw [six] at h; cases h
    · rw [other f e] at h; exact entA_ok.store f h
  · by_cases e : f = 6
    · subst e; rw [six] at h; cases h
    · rw [other f e] at h; exact entA_ok.add f k h
  · by_cases e : f = 6
    · subst e
      rw [six] at h
      cases h
      intro n0 ρ H H' w args vs v hr hn hv hg K hK
      cases args with
      | cons a l => cases hg
      | nil =>
        obtain ⟨rfl, rfl⟩ := Prod.mk.inj (Option.some.inj (show some ((.bool true : AV), H) = some (v, H') from hg))
        have hvs : vs = #[] := Array.toList_inj.1 (by simpa using (show vs.toList = [] from hv))
        subst hvs
        have hr0 : HR Tryz.prog w.heap.size (fun _ => none) H0 w := ⟨⟨(fun b b' l l' h => by cases h), (fun b l h => by cases h)⟩, fun _ _ => rfl, fun _ _ => rfl⟩
        refine ((level_sound (drawn_ok entA) mixed entA_ok 200).call w.heap.size (fun _ => none) H0 w 6 [] #[] (fun v _ => isTrue v) K hr0 (Nat.le_refl _) rfl hA fun v H' ρ' w' v' h1 h2 h3 => ?_).1
        have hv1 : v = .bool true := by
          cases v <;> first | (cases h1; done) | skip
          rename_i b
          cases b
          · cases h1
          · rfl
        subst hv1
        obtain rfl : v' = .bool true := h2
        exact hK ρ w' _ rfl (below_sim hr (h3.below hr0 (Nat.le_refl _)))
    · rw [other f e] at h; exact (entA_known h).elim
end Go.Proofs.YtbnieocmjafidaaGreat
