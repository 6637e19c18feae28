/- The closed facts of the row NodeForms: run by the kernel. -/
import Derived.Test.YtbnieocmjafidaaGreatFax
namespace Go.Proofs.YtbnieocmjafidaaGreat

theorem node_inPlace : Tryz.prog.inPlace 3 = Rows.nodeFormsRow.inPlace := by kernel_rfl
theorem node_unfollowed : Tryz.prog.unfollowed 3 = true := by kernel_rfl
theorem node_varsNamed : Tryz.prog.varsNamed 3 = [] := by kernel_rfl
theorem node_recurses : Tryz.prog.recurses 3 = true := by
  unfold Program.recurses
  rw [node_unfollowed]
  rfl
theorem node_facts : joinedFacts Tryz.prog 3 Tryz.f3 Rows.nodeFormsSpec Rows.nodeFormsRow = true := by
  simp only [joinedFacts, Bool.and_eq_true, beq_iff_eq, Array.all_eq_true_iff_forall_mem, List.all_eq_true, decide_eq_true_eq]
  refine ⟨⟨⟨⟨⟨⟨⟨⟨⟨⟨⟨⟨⟨⟨⟨⟨⟨⟨⟨⟨⟨⟨⟨⟨⟨⟨⟨⟨⟨⟨⟨?_, ?_⟩, ?_⟩, ?_⟩, ?_⟩, ?_⟩, ?_⟩, ?_⟩, ?_⟩, ?_⟩, ?_⟩, ?_⟩, ?_⟩, ?_⟩, ?_⟩, ?_⟩, ?_⟩, ?_⟩, ?_⟩, ?_⟩, ?_⟩, ?_⟩, ?_⟩, ?_⟩, ?_⟩, ?_⟩, ?_⟩, ?_⟩, ?_⟩, ?_⟩, ?_⟩, ?_⟩
  · kernel_rfl
  · exact fax_laid
  · exact fax_maps
  · exact Array.all_eq_true_iff_forall_mem.1 (by kernel_rfl)
  · kernel_rfl
  · kernel_rfl
  · exact fax_stops
  · kernel_rfl
  · exact fax_knobs
  · exact node_inPlace.symm
  · exact node_unfollowed.symm
  · exact node_recurses.symm
  · exact node_varsNamed.symm
  · kernel_rfl
  · kernel_rfl
  · kernel_rfl
  · kernel_rfl
  · kernel_rfl
  · exact List.all_eq_true.1 (by kernel_rfl)
  · intro x hx
    have h := Array.all_eq_true_iff_forall_mem.1 (show (Tryz.f3.resultTypes.all fun t => Tryz.prog.readableRec t && decide (t < Tryz.prog.types.size)) = true by kernel_rfl) x hx
    simpa only [Bool.and_eq_true, decide_eq_true_eq] using h
  · kernel_rfl
  · kernel_rfl
  · exact fax_keys.symm
  · kernel_rfl
  · exact fax_heard
  all_goals kernel_rfl
theorem node_whole : Tryz.f3.isInstance Tryz.prog Rows.nodeFormsRow.origin Rows.nodeFormsRow.targs := of_decide_eq_true (by kernel_rfl)
theorem node_bare : Tryz.f3.isWrapper Tryz.prog Rows.nodeFormsRow.wrapper Rows.nodeFormsRow.mainSum := by
  unfold Func.isWrapper; first | (rw [if_pos (by decide +kernel)]; kernel_rfl) | (rw [if_neg (by decide +kernel)]; exact ⟨rfl, rfl⟩)
theorem node_named : Tryz.prog.funcNamed Rows.nodeFormsRow.func = some 3 := by kernel_rfl

end Go.Proofs.YtbnieocmjafidaaGreat
