/- The statement FnExactMergeBlocksSaid, proved: for every input the call returns true and the arguments read as before. Condition: none. -/
import Derived.Test.YtpdggpfobbkdnaaRows
import Derived.Test.YtpdggpfobbkdnaaCFnExactMergeBlocks3
import Derived.WalkKit
import Derived.ProofKit
import Derived.OpenShut
import Derived.ShutString
import Derived.ChangeOld
import Derived.Below
import Derived.SizedLaws
import Derived.HandedShaped
namespace Go.Proofs.Ytpdggpfobbkdnaa.fnExactMergeBlocks
open Go.ChangeShapes Go.WideShapes Go.ChangeAt
open Go.RowKit Go.Proofs.YtpdggpfobbkdnaaW.PrintWords Go.Proofs.YtpdggpfobbkdnaaW.PrintLast Go.Proofs.Ytpdggpfobbkdnaa.A
open Go.ChangeMaps (open_string shut_string)
theorem own : ownKnob Try.prog.godebug = none := by kernel_rfl
theorem laidOut : laidOutB Try.prog = true := by kernel_rfl
theorem o66 : Open.Opens Try.prog 66 k66 wf66 := by
  have h := Open.opens_struct (β := S66) (tot := 3) (fun x => (x.f0, x.f1, x.f2)) (fun p => ⟨p.1, p.2.1, p.2.2⟩) (fun _ => rfl) Try.underlying66 (by kernel_rfl) (Open.opensF_cons 0 _ rfl rfl (Open.opens_string Try.underlying9) 1 (by kernel_rfl) (Open.opensF_cons 1 _ rfl rfl (Open.opens_string Try.underlying9) 2 (by kernel_rfl) (Open.opensF_last 2 _ rfl rfl (by kernel_rfl) (Open.opens_string Try.underlying9))))
  exact h
set_option maxRecDepth 100000 in
theorem lifted (Pure : laws_FnExactMergeBlocks.Pure) (os : Os) (started : os.Started) (H : Type) (enc : TypeId × Value → H) :
    ReturnsInHanded {} Try.checked os 12 .any (Rows.fnExactMergeBlocksSpec.pre6 enc Try.prog Try.f12 Rows.fnExactMergeBlocksRow.domain false) (Rows.fnExactMergeBlocksSpec.post enc Try.prog Try.f12 false true false false) := by
  refine returnsInHanded_of_change_shaped (C := Try.checked) own started (by kernel_rfl) Try.func12
    (ChangeSpec.witness6 (enc := enc) (C := Try.checked) false ⟨#[], #[.slice none 0 0, .slice none 0 0], []⟩ 8 (by kernel_rfl) (by kernel_rfl) (by kernel_rfl) (by kernel_rfl)) ?_
  intro W base args ds gs before hval0 hW hcnd hsz0 hsh _
  have hsz : (DataW.weightsEach Try.prog (Try.f12.params.toList ++ Rows.fnExactMergeBlocksSpec.plain.varTypes Try.prog) (ds ++ gs)).all (· ≤ reachBytes) = true := hsz0
  have hval : ∀ (j : Nat) t v, Try.f12.params[j]? = some t → args[j]? = some v → Value.okWide Try.prog W .any base t v := hval0
  have hW' := hW
  obtain ⟨p, q, hA0, hV, rfl, hfz, hnd⟩ := hW
  have hA : DataW.TrodAll enc Try.prog W 0 (fun _ => true) true Try.f12.params.toList args.toList ds p := hA0
  rw [Try.params12] at hA hval hsz
  obtain ⟨v0, vs0, d0, ds0, p0, q0, hargs, rfl, rfl, h0, r0⟩ := trodAll_cons hA
  obtain ⟨v1, vs1, d1, ds1, p1, q1, rfl, rfl, rfl, h1, r1⟩ := trodAll_cons r0
  obtain ⟨rfl, rfl, rfl⟩ := trodAll_nil r1
  obtain rfl : args = #[v0, v1] := by cases args; simp_all
  obtain ⟨rfl, rfl⟩ := trodVars_none hV
  obtain ⟨a0, len0, cap0, rfl⟩ := okWide_slice Try.underlying32 (hval 0 32 v0 rfl rfl)
  have k0 := h0
  have lt0 : ∀ x ∈ p0, x.block < W.heap.size := by obtain ⟨m, hm⟩ := k0; exact DataW.trod_lt m _ _ _ hm
  obtain ⟨l0, rfl, hc0, hr0, hw0⟩ := Open.arg_slice (Open.opens_slice Try.underlying32 o66 (by kernel_rfl)) h0
  obtain ⟨a1, len1, cap1, rfl⟩ := okWide_slice Try.underlying32 (hval 1 32 v1 rfl rfl)
  have k1 := h1
  have lt1 : ∀ x ∈ p1, x.block < W.heap.size := by obtain ⟨m, hm⟩ := k1; exact DataW.trod_lt m _ _ _ hm
  obtain ⟨l1, rfl, hc1, hr1, hw1⟩ := Open.arg_slice (Open.opens_slice Try.underlying32 o66 (by kernel_rfl)) h1
  clear hA0 hval0 hsz0 hsz
  obtain ⟨k, hf⟩ := Pure l0 l1 hw0 hw1
  refine (laws_FnExactMergeBlocks.calls k _ _ l0 _ _ l1 true W hr0 hc0 hr1 hc1 hf (hasV_of W hsh)).mono ?_
  rintro e W' ⟨rfl, hb⟩
  have bel : Below W.heap.size W W' := hb
  exact ⟨_, rfl, _, _, _, [], _, [], hW', trodAll_mk1 (shut_bool Try.underlying4 _), (trodAll_cons_mk (Below.trod laidOut (by kernel_rfl) (of_decide_eq_true (by kernel_rfl)) k0 bel lt0) (trodAll_cons_mk (Below.trod laidOut (by kernel_rfl) (of_decide_eq_true (by kernel_rfl)) k1 bel lt1) trodAll_mk0)), rfl, bel.frame _, fun h => by cases h⟩
theorem over (Pure : laws_FnExactMergeBlocks.Pure) : Rows.fnExactMergeBlocksRow.holds Try.pinned (OpenSpec.ofChange Rows.fnExactMergeBlocksSpec) :=
  OpenClaim.holds_of_wide 12 Try.f12 rfl rfl rfl rfl rfl rfl rfl ⟨rfl, rfl, rfl, rfl, rfl⟩ rfl rfl rfl rfl rfl (by kernel_rfl) Try.func12 (by kernel_rfl)
    (of_decide_eq_true (by kernel_rfl)) (by unfold Func.isWrapper; first | (rw [if_pos (by decide +kernel)]; kernel_rfl) | (rw [if_neg (by decide +kernel)]; exact ⟨rfl, rfl⟩))
    (fun os started H enc _ => lifted Pure os started H enc)
end Go.Proofs.Ytpdggpfobbkdnaa.fnExactMergeBlocks
namespace Go.Proofs.Ytpdggpfobbkdnaa
theorem fnExactMergeBlocks_holds : Rows.FnExactMergeBlocksSaid := fnExactMergeBlocks.over A.FnExactMergeBlocks
#print axioms fnExactMergeBlocks_holds
end Go.Proofs.Ytpdggpfobbkdnaa
