/- The closed facts of the row ClusterForms: run by the kernel. -/
import Derived.Test.YtbnieocmjafidaaGreatFax
namespace Go.Proofs.YtbnieocmjafidaaGreat

theorem cluster_inPlace : Tryz.prog.inPlace 5 = Rows.clusterFormsRow.inPlace := by kernel_rfl
theorem cluster_unfollowed : Tryz.prog.unfollowed 5 = true := by kernel_rfl
theorem cluster_varsNamed : Tryz.prog.varsNamed 5 = [] := by kernel_rfl
theorem cluster_recurses : Tryz.prog.recurses 5 = true := by
  unfold Program.recurses
  rw [cluster_unfollowed]
  rfl
theorem cluster_facts : joinedFacts Tryz.prog 5 Tryz.f5 Rows.clusterFormsSpec Rows.clusterFormsRow = true := by
  simp only [joinedFacts, Bool.and_eq_true, beq_iff_eq, Array.all_eq_true_iff_forall_mem, List.all_eq_true, decide_eq_true_eq]
  refine ⟨⟨⟨⟨⟨⟨⟨⟨⟨⟨⟨⟨⟨⟨⟨⟨⟨⟨⟨⟨⟨⟨⟨⟨⟨⟨⟨⟨⟨⟨⟨?_, ?_⟩, ?_⟩, ?_⟩, ?_⟩, ?_⟩, ?_⟩, ?_⟩, ?_⟩, ?_⟩, ?_⟩, ?_⟩, ?_⟩, ?_⟩, ?_⟩, ?_⟩, ?_⟩, ?_⟩, ?_⟩, ?_⟩, ?_⟩, ?_⟩, ?_⟩, ?_⟩, ?_⟩, ?_⟩, ?_⟩, ?_⟩, ?_⟩, ?_⟩, ?_⟩, ?_⟩
  · kernel_rfl
  · exact fax_laid
  · exact fax_maps
  · exact Array.all_eq_true_iff_forall_mem.1 (by kernel_rfl)
  · kernel_rfl
  · kernel_rfl
  · exact fax_stops
  · kernel_rfl
  · exact fax_knobs
  · exact cluster_inPlace.symm
  · exact cluster_unfollowed.symm
  · exact cluster_recurses.symm
  · exact cluster_varsNamed.symm
  · kernel_rfl
  · kernel_rfl
  · kernel_rfl
  · kernel_rfl
  · kernel_rfl
  · exact List.all_eq_true.1 (by kernel_rfl)
  · intro x hx
    have h := Array.all_eq_true_iff_forall_mem.1 (show (Tryz.f5.resultTypes.all fun t => Tryz.prog.readableRec t && decide (t < Tryz.prog.types.size)) = true by kernel_rfl) x hx
    simpa only [Bool.and_eq_true, decide_eq_true_eq] using h
  · kernel_rfl
  · kernel_rfl
  · exact fax_keys.symm
  · kernel_rfl
  · exact fax_heard
  all_goals kernel_rfl
theorem cluster_whole : Tryz.f5.isInstance Tryz.prog Rows.clusterFormsRow.origin Rows.clusterFormsRow.targs := of_decide_eq_true (by kernel_rfl)
theorem cluster_bare : Tryz.f5.isWrapper Tryz.prog Rows.clusterFormsRow.wrapper Rows.clusterFormsRow.mainSum := by
  unfold Func.isWrapper; first | (rw [if_pos (by decide +kernel)]; kernel_rfl) | (rw [if_neg (by decide +kernel)]; exact ⟨rfl, rfl⟩)
theorem cluster_named : Tryz.prog.funcNamed Rows.clusterFormsRow.func = some 5 := by kernel_rfl

end Go.Proofs.YtbnieocmjafidaaGreat
