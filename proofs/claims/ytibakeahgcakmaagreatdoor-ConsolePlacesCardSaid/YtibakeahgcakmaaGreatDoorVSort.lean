/- The library's sort of a slice of numbers that the call itself made, in the words of the print. -/
import Derived.Test.YtibakeahgcakmaaGreatDoorVTell
import Derived.Sort.OwnSortedInts
set_option linter.unusedVariables false
namespace Go.Proofs.YtibakeahgcakmaaGreatDoor
open Go.Shelf Go.RowKit Go.Proofs.YtibakeahgcakmaaGreatDoorW.PrintWords Go.Proofs.YtibakeahgcakmaaGreatDoorW.PrintLast Go.Proofs.YtibakeahgcakmaaGreatDoorW.PrintMore

def srt (l : List Int) : List Int := l.mergeSort fun x y => decide (x ≤ y)
theorem sort_calls (B : Nat) (ok : Nat → Prop) (v : Value) (l : List Int) (w : World) (hl : l.length < 4611686018427387904) (hR : Kd.R (Kd.int .i64) 3 w B ok v l) :
    Calls Tryz.prog 86 #[v] w fun e w' => e = .returned (.tuple #[]) ∧ Kd.R (Kd.int .i64) 3 w' B ok v (srt l) ∧ w.grownBy w' v.ownBlock := by
  have ho := Kd.own_of_R hR
  have hlen : (srt l).length = l.length := List.length_mergeSort l
  rcases ho.2 with ⟨rfl, h0⟩ | ⟨g, cap, cur, rfl, hbase, hb, h1, h2, h3, h4⟩
  · have : l = [] := List.length_eq_zero_iff.1 h0
    subst this
    refine (Tryz.slices_Sort_int_none none 0 w).mono ?_
    rintro e w' ⟨rfl, rfl⟩
    exact ⟨rfl, by rw [show srt [] = [] from by simp [srt]]; exact hR, World.grownBy.refl _ _⟩
  · have hH : Go.Sort.Holds (Value.int .i64) w g 0 l.toArray := holds_of_blockI hb (by simpa [encs] using h4)
    refine (Tryz.slices_Sort_int g 0 cap l w hH (Array.getElem?_eq_some_iff.1 hb).1 hl).mono ?_
    rintro e w' ⟨rfl, n, os, rfl⟩
    refine ⟨rfl, ?_, grownBy_sortedI _⟩
    have hs := ownsRow_sortedI (n := n) (os := os) (ts := srt l) hlen hbase hb h1 h2 h3
    exact Kd.R_of_own (by rw [hlen]; exact hs) hR.1
end Go.Proofs.YtibakeahgcakmaaGreatDoor
