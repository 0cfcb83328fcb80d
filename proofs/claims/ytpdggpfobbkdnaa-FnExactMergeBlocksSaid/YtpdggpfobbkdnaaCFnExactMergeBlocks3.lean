/- Part 4 of the proof of FnExactMergeBlocksSaid: the functions that the law runs as plain Lean functions, the contracts of their calls, and plain facts about them. Condition: none beyond each theorem's own hypotheses. -/
import Derived.Test.YtpdggpfobbkdnaaCFnExactMergeBlocks0
import Derived.Test.YtpdggpfobbkdnaaCFnExactMergeBlocks1
import Derived.Test.YtpdggpfobbkdnaaVFnExactMergeBlocksWords
import Derived.Test.YtpdggpfobbkdnaaVFnExactMergeBlocksLast
import Derived.Test.YtpdggpfobbkdnaaVFnExactMergeBlocksTab
import Derived.Test.YtpdggpfobbkdnaaVFnExactMergeBlocksFour
import Derived.Test.YtpdggpfobbkdnaaVFnExactMergeBlocksQPut
import Derived.Test.YtpdggpfobbkdnaaVFnExactMergeBlocksApart
import Derived.Test.YtpdggpfobbkdnaaVFnExactMergeBlocksArr
import Derived.Test.YtpdggpfobbkdnaaVFnExactMergeBlocksZeros
import Derived.Test.YtpdggpfobbkdnaaVFnExactMergeBlocksFoot
import Derived.Test.YtpdggpfobbkdnaaVFnExactMergeBlocksKept
import Derived.Test.YtpdggpfobbkdnaaVFnExactMergeBlocksShare
import Derived.Test.YtpdggpfobbkdnaaVFnExactMergeBlocksN
import Derived.Test.YtpdggpfobbkdnaaVFnExactMergeBlocksFootNe
import Derived.Test.YtpdggpfobbkdnaaVFnExactMergeBlocksAt
import Derived.Test.YtpdggpfobbkdnaaVFnExactMergeBlocksEqStruct
import Derived.Test.YtpdggpfobbkdnaaVFnExactMergeBlocksRepsOne
import Derived.Test.YtpdggpfobbkdnaaVFnExactMergeBlocksInv
import Derived.Test.YtpdggpfobbkdnaaVFnExactMergeBlocksInvWords
import Derived.Test.YtpdggpfobbkdnaaVFnExactMergeBlocksGuard
import Derived.Test.YtpdggpfobbkdnaaVFnExactMergeBlocksNEv
import Derived.Test.YtpdggpfobbkdnaaVFnExactMergeBlocksMore
import Derived.Lib.IndexMore
import Derived.Lib.IndexAny
import Derived.Lib.IndexBytes
import Derived.Deep.Slices
import Derived.Deep.Fields
import Derived.ChangeSame
import Derived.ProofKit
import Derived.Test.YtpdggpfobbkdnaaCFnExactMergeBlocks2
section
namespace Go.Proofs.Ytpdggpfobbkdnaa.A
open Go.RowKit Go.Proofs.YtpdggpfobbkdnaaW.PrintWords Go.Proofs.YtpdggpfobbkdnaaW.PrintLast Go.Proofs.YtpdggpfobbkdnaaW.PrintMore
attribute [local go_sem] max2_int min2_int max_two min_two max_three min_three max_four min_four   -- for this text's walks alone
set_option linter.unusedVariables false
set_option linter.unusedSimpArgs false
mutual
def laws_FnExactMergeBlocks.j0 : Nat → List (S66) → List (S66) → List (S69) → Int → List (S69) → List (S69) → List (S69) → Int → Bool → Option (Bool)
  | 0, _, _, _, _, _, _, _, _, _ => none
  | k + 1, x0, x1, x6, x7, x8, x9, x10, x11, x53 => if x53 = true then (some false) else ((laws_toBlockS.f k x0).bind fun t124 => ((laws_eqBlockS.f k x8 t124).bind fun t127 => (if t127 = true then ((laws_toBlockS.f k x1).bind fun t128 => ((laws_eqBlockS.f k x9 t128).bind fun t131 => (if t131 = true then ((laws_markBlockS.f k x8 1).bind fun bt132 => ((laws_markBlockS.f k x9 bt132.1).bind fun bt134 => (if bt134.1 < 0 then (laws_FnExactMergeBlocks.j1 k x0 x1 x6 x7 x10 true) else ((laws_eqBlockS.f k x10 x6).bind fun t136 => (if t136 = true then (laws_FnExactMergeBlocks.j1 k x0 x1 x6 x7 x10 (x11 != x7)) else (laws_FnExactMergeBlocks.j1 k x0 x1 x6 x7 x10 true)))))) else (some false)))) else (some false))))
def laws_FnExactMergeBlocks.j1 : Nat → List (S66) → List (S66) → List (S69) → Int → List (S69) → Bool → Option (Bool)
  | 0, _, _, _, _, _, _ => none
  | k + 1, x0, x1, x6, x7, x10, x82 => if x82 = true then (some false) else ((laws_markBlockS.f k x10 1).bind fun bt137 => ((laws_heldBlockS.f k bt137.2 1).bind fun t139 => (if t139 < 0 then (some false) else (if t139 = bt137.1 then ((laws_toBlockS.f k x0).bind fun t140 => ((laws_toBlockS.f k x1).bind fun t143 => ((impl_MergeBlocks.f k t140 t143).bind fun bt146 => ((laws_eqBlockS.f k bt146.1 x6).bind fun t150 => (if t150 = true then (laws_FnExactMergeBlocks.j2 k bt137.2 bt137.1 (bt146.2 != x7)) else (laws_FnExactMergeBlocks.j2 k bt137.2 bt137.1 true)))))) else (some false)))))
def laws_FnExactMergeBlocks.j2 : Nat → List (S69) → Int → Bool → Option (Bool)
  | 0, _, _, _ => none
  | k + 1, x10, x13, x110 => if x110 = true then (some false) else ((laws_heldBlockS.f k x10 1).bind fun t151 => (if t151 < 0 then (some false) else (if t151 = x13 then (some true) else (some false))))
end
def laws_FnExactMergeBlocks.f (k : Nat) (l0 : List (S66)) (l1 : List (S66)) : Option (Bool) := (laws_szBlockS.f k l0 1048576).bind fun t101 => (if t101 < 0 then (some true) else ((laws_szBlockS.f k l1 t101).bind fun t102 => (if t102 < 0 then (some true) else ((laws_toBlockS.f k l0).bind fun t103 => ((laws_toBlockS.f k l1).bind fun t106 => ((spec_MergeBlocks.f k t103 t106).bind fun bt109 => ((laws_toBlockS.f k l0).bind fun t113 => ((laws_toBlockS.f k l1).bind fun t116 => ((impl_MergeBlocks.f k t113 t116).bind fun bt119 => ((laws_eqBlockS.f k bt119.1 bt109.1).bind fun t123 => (if t123 = true then (laws_FnExactMergeBlocks.j0 k l0 l1 bt109.1 bt109.2 t113 t116 bt119.1 bt119.2 (bt119.2 != bt109.2)) else (laws_FnExactMergeBlocks.j0 k l0 l1 bt109.1 bt109.2 t113 t116 bt119.1 bt119.2 true))))))))))))
theorem laws_FnExactMergeBlocks.mono_l : ∀ k, (∀ y0 y1 y2 y3 y4 y5 y6 y7 y8, LeO (laws_FnExactMergeBlocks.j0 k y0 y1 y2 y3 y4 y5 y6 y7 y8) (laws_FnExactMergeBlocks.j0 (k + 1) y0 y1 y2 y3 y4 y5 y6 y7 y8)) ∧ (∀ y0 y1 y2 y3 y4 y5, LeO (laws_FnExactMergeBlocks.j1 k y0 y1 y2 y3 y4 y5) (laws_FnExactMergeBlocks.j1 (k + 1) y0 y1 y2 y3 y4 y5)) ∧ (∀ y0 y1 y2, LeO (laws_FnExactMergeBlocks.j2 k y0 y1 y2) (laws_FnExactMergeBlocks.j2 (k + 1) y0 y1 y2))
  | 0 => ⟨fun _ _ _ _ _ _ _ _ _ r h => by simp [laws_FnExactMergeBlocks.j0] at h, fun _ _ _ _ _ _ r h => by simp [laws_FnExactMergeBlocks.j1] at h, fun _ _ _ r h => by simp [laws_FnExactMergeBlocks.j2] at h⟩
  | k + 1 => by
    obtain ⟨ih0, ih1, ih2⟩ := laws_FnExactMergeBlocks.mono_l k
    refine ⟨?_, ?_, ?_⟩
    · intro y0 y1 y2 y3 y4 y5 y6 y7 y8
      unfold laws_FnExactMergeBlocks.j0
      repeat' first
      | (with_reducible exact ih0 _ _ _ _ _ _ _ _ _)
      | (with_reducible exact ih1 _ _ _ _ _ _)
      | (with_reducible exact ih2 _ _ _)
      | (with_reducible exact impl_MergeBlocks.mono _ _ _)
      | (with_reducible exact laws_eqBlockS.mono _ _ _)
      | (with_reducible exact laws_heldBlockS.mono _ _ _)
      | (with_reducible exact laws_markBlockS.mono _ _ _)
      | (with_reducible exact laws_szBlockS.mono _ _ _)
      | (with_reducible exact laws_toBlockS.mono _ _)
      | (with_reducible exact spec_MergeBlocks.mono _ _ _)
      | (with_reducible exact LeO.refl _)
      | (with_reducible exact LeO.none _)
      | (with_reducible refine LeO.ite ?_ ?_)
      | (with_reducible refine LeO.bind ?_ (fun _ => ?_))
      | exact ih0 _ _ _ _ _ _ _ _ _
      | exact ih1 _ _ _ _ _ _
      | exact ih2 _ _ _
      | exact impl_MergeBlocks.mono _ _ _
      | exact laws_eqBlockS.mono _ _ _
      | exact laws_heldBlockS.mono _ _ _
      | exact laws_markBlockS.mono _ _ _
      | exact laws_szBlockS.mono _ _ _
      | exact laws_toBlockS.mono _ _
      | exact spec_MergeBlocks.mono _ _ _
      | exact LeO.none _
      | refine LeO.ite ?_ ?_
      | refine LeO.bind ?_ (fun _ => ?_)
    · intro y0 y1 y2 y3 y4 y5
      unfold laws_FnExactMergeBlocks.j1
      repeat' first
      | (with_reducible exact ih0 _ _ _ _ _ _ _ _ _)
      | (with_reducible exact ih1 _ _ _ _ _ _)
      | (with_reducible exact ih2 _ _ _)
      | (with_reducible exact impl_MergeBlocks.mono _ _ _)
      | (with_reducible exact laws_eqBlockS.mono _ _ _)
      | (with_reducible exact laws_heldBlockS.mono _ _ _)
      | (with_reducible exact laws_markBlockS.mono _ _ _)
      | (with_reducible exact laws_szBlockS.mono _ _ _)
      | (with_reducible exact laws_toBlockS.mono _ _)
      | (with_reducible exact spec_MergeBlocks.mono _ _ _)
      | (with_reducible exact LeO.refl _)
      | (with_reducible exact LeO.none _)
      | (with_reducible refine LeO.ite ?_ ?_)
      | (with_reducible refine LeO.bind ?_ (fun _ => ?_))
      | exact ih0 _ _ _ _ _ _ _ _ _
      | exact ih1 _ _ _ _ _ _
      | exact ih2 _ _ _
      | exact impl_MergeBlocks.mono _ _ _
      | exact laws_eqBlockS.mono _ _ _
      | exact laws_heldBlockS.mono _ _ _
      | exact laws_markBlockS.mono _ _ _
      | exact laws_szBlockS.mono _ _ _
      | exact laws_toBlockS.mono _ _
      | exact spec_MergeBlocks.mono _ _ _
      | exact LeO.none _
      | refine LeO.ite ?_ ?_
      | refine LeO.bind ?_ (fun _ => ?_)
    · intro y0 y1 y2
      unfold laws_FnExactMergeBlocks.j2
      repeat' first
      | (with_reducible exact ih0 _ _ _ _ _ _ _ _ _)
      | (with_reducible exact ih1 _ _ _ _ _ _)
      | (with_reducible exact ih2 _ _ _)
      | (with_reducible exact impl_MergeBlocks.mono _ _ _)
      | (with_reducible exact laws_eqBlockS.mono _ _ _)
      | (with_reducible exact laws_heldBlockS.mono _ _ _)
      | (with_reducible exact laws_markBlockS.mono _ _ _)
      | (with_reducible exact laws_szBlockS.mono _ _ _)
      | (with_reducible exact laws_toBlockS.mono _ _)
      | (with_reducible exact spec_MergeBlocks.mono _ _ _)
      | (with_reducible exact LeO.refl _)
      | (with_reducible exact LeO.none _)
      | (with_reducible refine LeO.ite ?_ ?_)
      | (with_reducible refine LeO.bind ?_ (fun _ => ?_))
      | exact ih0 _ _ _ _ _ _ _ _ _
      | exact ih1 _ _ _ _ _ _
      | exact ih2 _ _ _
      | exact impl_MergeBlocks.mono _ _ _
      | exact laws_eqBlockS.mono _ _ _
      | exact laws_heldBlockS.mono _ _ _
      | exact laws_markBlockS.mono _ _ _
      | exact laws_szBlockS.mono _ _ _
      | exact laws_toBlockS.mono _ _
      | exact spec_MergeBlocks.mono _ _ _
      | exact LeO.none _
      | refine LeO.ite ?_ ?_
      | refine LeO.bind ?_ (fun _ => ?_)
theorem laws_FnExactMergeBlocks.mono : ∀ a0 a1 k, LeO (laws_FnExactMergeBlocks.f k a0 a1) (laws_FnExactMergeBlocks.f (k + 1) a0 a1) := by
  intro a0 a1 k
  obtain ⟨ih0, ih1, ih2⟩ := laws_FnExactMergeBlocks.mono_l k
  unfold laws_FnExactMergeBlocks.f
  repeat' first
      | (with_reducible exact ih0 _ _ _ _ _ _ _ _ _)
      | (with_reducible exact ih1 _ _ _ _ _ _)
      | (with_reducible exact ih2 _ _ _)
      | (with_reducible exact impl_MergeBlocks.mono _ _ _)
      | (with_reducible exact laws_eqBlockS.mono _ _ _)
      | (with_reducible exact laws_heldBlockS.mono _ _ _)
      | (with_reducible exact laws_markBlockS.mono _ _ _)
      | (with_reducible exact laws_szBlockS.mono _ _ _)
      | (with_reducible exact laws_toBlockS.mono _ _)
      | (with_reducible exact spec_MergeBlocks.mono _ _ _)
      | (with_reducible exact LeO.refl _)
      | (with_reducible exact LeO.none _)
      | (with_reducible refine LeO.ite ?_ ?_)
      | (with_reducible refine LeO.bind ?_ (fun _ => ?_))
      | exact ih0 _ _ _ _ _ _ _ _ _
      | exact ih1 _ _ _ _ _ _
      | exact ih2 _ _ _
      | exact impl_MergeBlocks.mono _ _ _
      | exact laws_eqBlockS.mono _ _ _
      | exact laws_heldBlockS.mono _ _ _
      | exact laws_markBlockS.mono _ _ _
      | exact laws_szBlockS.mono _ _ _
      | exact laws_toBlockS.mono _ _
      | exact spec_MergeBlocks.mono _ _ _
      | exact LeO.none _
      | refine LeO.ite ?_ ?_
      | refine LeO.bind ?_ (fun _ => ?_)
set_option maxHeartbeats 8000000 in
set_option maxRecDepth 100000 in
theorem laws_FnExactMergeBlocks.calls (k : Nat) (A0 : Option Addr) (c0 : Nat) (l0 : List (S66)) (A1 : Option Addr) (c1 : Nat) (l1 : List (S66)) (r : Bool) (w : World) (hr0 : Kd.C k66 w A0 l0.length l0) (hc0 : l0.length ≤ c0) (hr1 : Kd.C k66 w A1 l1.length l1) (hc1 : l1.length ≤ c1) (h : laws_FnExactMergeBlocks.f k l0 l1 = some r) (hV : HasV w) :
    Calls Try.prog 12 #[.slice A0 l0.length c0, .slice A1 l1.length c1] w fun e w' => e = .returned (.bool r) ∧ Below w.heap.size w w' := by
  have HV := Aside0.mk hV
  clear hV
  have HR0 := Aside0.mk hr0
  have HC0 := Aside0.mk hc0
  clear hr0 hc0
  have HR1 := Aside0.mk hr1
  have HC1 := Aside0.mk hc1
  clear hr1 hc1
  have HB := Aside0.mk (Below.refl w.heap.size w)
  have H : ((laws_szBlockS.f k l0 1048576).bind fun t101 => (if t101 < 0 then (some true) else ((laws_szBlockS.f k l1 t101).bind fun t102 => (if t102 < 0 then (some true) else ((laws_toBlockS.f k l0).bind fun t103 => ((laws_toBlockS.f k l1).bind fun t106 => ((spec_MergeBlocks.f k t103 t106).bind fun bt109 => ((laws_toBlockS.f k l0).bind fun t113 => ((laws_toBlockS.f k l1).bind fun t116 => ((impl_MergeBlocks.f k t113 t116).bind fun bt119 => ((laws_eqBlockS.f k bt119.1 bt109.1).bind fun t123 => (if t123 = true then (laws_FnExactMergeBlocks.j0 k l0 l1 bt109.1 bt109.2 t113 t116 bt119.1 bt119.2 (bt119.2 != bt109.2)) else (laws_FnExactMergeBlocks.j0 k l0 l1 bt109.1 bt109.2 t113 t116 bt119.1 bt119.2 true))))))))))))) = some r := h
  clear h
  replace H := Option.bind_eq_some_iff.mp H
  obtain ⟨t101, A30, H⟩ := H
  replace H : (if t101 < 0 then (some true) else ((laws_szBlockS.f k l1 t101).bind fun t102 => (if t102 < 0 then (some true) else ((laws_toBlockS.f k l0).bind fun t103 => ((laws_toBlockS.f k l1).bind fun t106 => ((spec_MergeBlocks.f k t103 t106).bind fun bt109 => ((laws_toBlockS.f k l0).bind fun t113 => ((laws_toBlockS.f k l1).bind fun t116 => ((impl_MergeBlocks.f k t113 t116).bind fun bt119 => ((laws_eqBlockS.f k bt119.1 bt109.1).bind fun t123 => (if t123 = true then (laws_FnExactMergeBlocks.j0 k l0 l1 bt109.1 bt109.2 t113 t116 bt119.1 bt119.2 (bt119.2 != bt109.2)) else (laws_FnExactMergeBlocks.j0 k l0 l1 bt109.1 bt109.2 t113 t116 bt119.1 bt119.2 true)))))))))))) = some r := H
  have A3 := Aside0.mk A30
  clear A30
  by_cases c4 : t101 < 0
  · rw [if_pos c4] at H
    have c4b0 : decide (t101 < 0) = true := decide_eq_true c4
    clear c4
    obtain rfl := Option.some.inj H
    go_enter Try.func12, Try.ntmps12
    go_wp2_with (first | ((with_reducible refine gate_callee (f := 23) rfl ?_); refine goesL_ (some 19) rfl rfl Try.func23 (by kernel_rfl) rfl #[.slice A0 l0.length c0, .int .i64 1048576] rfl (by (try simp only [List.map_toArray, List.map_cons, List.map_nil]); first | done | rfl | (simp only [List.length_drop, List.length_take]; rfl)) ?_; (with_reducible refine (laws_szBlockS.calls k _ _ l0 1048576 t101 _ ?side1 ?side2 A3.out).mono ?_); (case side1 => repeat (first | exact HR0.out | (with_reducible refine Kd.C_alloc ?_ _) | (with_reducible refine Kd.C_drewN ?_ _) | (with_reducible refine Kd.C_drew ?_))); (case side2 => exact HC0.out); rintro e w5 ⟨rfl, hb⟩; refine ⟨_, rfl, ?_⟩; have n0_ := Aside0.mk (below_step (by repeat (first | (with_reducible first | exact HB.out | apply below_alloc | apply pw_below_drewN | apply below_drew1) | exact HB.out)) hb); clear HB; have HB := n0_; clear n0_; (try clear hb); (try clear hb2); (try clear hk); (try clear hi)))
    go_ret
    exact ⟨by first | rfl | (simp [errW_none, errW_some] <;> rfl) | (simp [*, errW_none, errW_some] <;> rfl), by repeat (first | (with_reducible first | exact HB.out | apply below_alloc | apply pw_below_drewN | apply below_drew1) | exact HB.out)⟩
  · rw [if_neg c4] at H
    have c4b0 : decide (t101 < 0) = false := decide_eq_false c4
    clear c4
    replace H := Option.bind_eq_some_iff.mp H
    obtain ⟨t102, A60, H⟩ := H
    replace H : (if t102 < 0 then (some true) else ((laws_toBlockS.f k l0).bind fun t103 => ((laws_toBlockS.f k l1).bind fun t106 => ((spec_MergeBlocks.f k t103 t106).bind fun bt109 => ((laws_toBlockS.f k l0).bind fun t113 => ((laws_toBlockS.f k l1).bind fun t116 => ((impl_MergeBlocks.f k t113 t116).bind fun bt119 => ((laws_eqBlockS.f k bt119.1 bt109.1).bind fun t123 => (if t123 = true then (laws_FnExactMergeBlocks.j0 k l0 l1 bt109.1 bt109.2 t113 t116 bt119.1 bt119.2 (bt119.2 != bt109.2)) else (laws_FnExactMergeBlocks.j0 k l0 l1 bt109.1 bt109.2 t113 t116 bt119.1 bt119.2 true)))))))))) = some r := H
    have A6 := Aside0.mk A60
    clear A60
    by_cases c7 : t102 < 0
    · rw [if_pos c7] at H
      have c7b0 : decide (t102 < 0) = true := decide_eq_true c7
      clear c7
      obtain rfl := Option.some.inj H
      go_enter Try.func12, Try.ntmps12
      go_wp2_with (first | ((with_reducible refine gate_callee (f := 23) rfl ?_); refine goesL_ (some 19) rfl rfl Try.func23 (by kernel_rfl) rfl #[.slice A0 l0.length c0, .int .i64 1048576] rfl (by (try simp only [List.map_toArray, List.map_cons, List.map_nil]); first | done | rfl | (simp only [List.length_drop, List.length_take]; rfl)) ?_; (with_reducible refine (laws_szBlockS.calls k _ _ l0 1048576 t101 _ ?side1 ?side2 A3.out).mono ?_); (case side1 => repeat (first | exact HR0.out | (with_reducible refine Kd.C_alloc ?_ _) | (with_reducible refine Kd.C_drewN ?_ _) | (with_reducible refine Kd.C_drew ?_))); (case side2 => exact HC0.out); rintro e w8 ⟨rfl, hb⟩; refine ⟨_, rfl, ?_⟩; have n0_ := Aside0.mk (below_step (by repeat (first | (with_reducible first | exact HB.out | apply below_alloc | apply pw_below_drewN | apply below_drew1) | exact HB.out)) hb); clear HB; have HB := n0_; clear n0_; (try clear hb); (try clear hb2); (try clear hk); (try clear hi)) | ((with_reducible refine gate_callee (f := 23) rfl ?_); refine goesL_ (some 24) rfl rfl Try.func23 (by kernel_rfl) rfl #[.slice A1 l1.length c1, .int .i64 t101] rfl (by (try simp only [List.map_toArray, List.map_cons, List.map_nil]); first | done | rfl | (simp only [List.length_drop, List.length_take]; rfl)) ?_; (with_reducible refine (laws_szBlockS.calls k _ _ l1 t101 t102 _ ?side1 ?side2 A6.out).mono ?_); (case side1 => repeat (first | exact (Kd.C_below HR1.out HB.out) | (with_reducible refine Kd.C_alloc ?_ _) | (with_reducible refine Kd.C_drewN ?_ _) | (with_reducible refine Kd.C_drew ?_))); (case side2 => exact HC1.out); rintro e w9 ⟨rfl, hb⟩; refine ⟨_, rfl, ?_⟩; have n0_ := Aside0.mk (below_step (by repeat (first | (with_reducible first | exact HB.out | apply below_alloc | apply pw_below_drewN | apply below_drew1) | exact HB.out)) hb); clear HB; have HB := n0_; clear n0_; (try clear hb); (try clear hb2); (try clear hk); (try clear hi)))
      go_ret
      exact ⟨by first | rfl | (simp [errW_none, errW_some] <;> rfl) | (simp [*, errW_none, errW_some] <;> rfl), by repeat (first | (with_reducible first | exact HB.out | apply below_alloc | apply pw_below_drewN | apply below_drew1) | exact HB.out)⟩
    · rw [if_neg c7] at H
      have c7b0 : decide (t102 < 0) = false := decide_eq_false c7
      clear c7
      replace H := Option.bind_eq_some_iff.mp H
      obtain ⟨t103, A100, H⟩ := H
      replace H : ((laws_toBlockS.f k l1).bind fun t106 => ((spec_MergeBlocks.f k t103 t106).bind fun bt109 => ((laws_toBlockS.f k l0).bind fun t113 => ((laws_toBlockS.f k l1).bind fun t116 => ((impl_MergeBlocks.f k t113 t116).bind fun bt119 => ((laws_eqBlockS.f k bt119.1 bt109.1).bind fun t123 => (if t123 = true then (laws_FnExactMergeBlocks.j0 k l0 l1 bt109.1 bt109.2 t113 t116 bt119.1 bt119.2 (bt119.2 != bt109.2)) else (laws_FnExactMergeBlocks.j0 k l0 l1 bt109.1 bt109.2 t113 t116 bt119.1 bt119.2 true)))))))) = some r := H
      have A10 := Aside0.mk A100
      clear A100
      replace H := Option.bind_eq_some_iff.mp H
      obtain ⟨t106, A110, H⟩ := H
      replace H : ((spec_MergeBlocks.f k t103 t106).bind fun bt109 => ((laws_toBlockS.f k l0).bind fun t113 => ((laws_toBlockS.f k l1).bind fun t116 => ((impl_MergeBlocks.f k t113 t116).bind fun bt119 => ((laws_eqBlockS.f k bt119.1 bt109.1).bind fun t123 => (if t123 = true then (laws_FnExactMergeBlocks.j0 k l0 l1 bt109.1 bt109.2 t113 t116 bt119.1 bt119.2 (bt119.2 != bt109.2)) else (laws_FnExactMergeBlocks.j0 k l0 l1 bt109.1 bt109.2 t113 t116 bt119.1 bt119.2 true))))))) = some r := H
      have A11 := Aside0.mk A110
      clear A110
      replace H := Option.bind_eq_some_iff.mp H
      obtain ⟨⟨t109, t110⟩, A120, H⟩ := H
      replace H : ((laws_toBlockS.f k l0).bind fun t113 => ((laws_toBlockS.f k l1).bind fun t116 => ((impl_MergeBlocks.f k t113 t116).bind fun bt119 => ((laws_eqBlockS.f k bt119.1 t109).bind fun t123 => (if t123 = true then (laws_FnExactMergeBlocks.j0 k l0 l1 t109 t110 t113 t116 bt119.1 bt119.2 (bt119.2 != t110)) else (laws_FnExactMergeBlocks.j0 k l0 l1 t109 t110 t113 t116 bt119.1 bt119.2 true)))))) = some r := H
      have A12 := Aside0.mk A120
      clear A120
      replace H := Option.bind_eq_some_iff.mp H
      obtain ⟨t113, A130, H⟩ := H
      replace H : ((laws_toBlockS.f k l1).bind fun t116 => ((impl_MergeBlocks.f k t113 t116).bind fun bt119 => ((laws_eqBlockS.f k bt119.1 t109).bind fun t123 => (if t123 = true then (laws_FnExactMergeBlocks.j0 k l0 l1 t109 t110 t113 t116 bt119.1 bt119.2 (bt119.2 != t110)) else (laws_FnExactMergeBlocks.j0 k l0 l1 t109 t110 t113 t116 bt119.1 bt119.2 true))))) = some r := H
      have A13 := Aside0.mk A130
      clear A130
      replace H := Option.bind_eq_some_iff.mp H
      obtain ⟨t116, A140, H⟩ := H
      replace H : ((impl_MergeBlocks.f k t113 t116).bind fun bt119 => ((laws_eqBlockS.f k bt119.1 t109).bind fun t123 => (if t123 = true then (laws_FnExactMergeBlocks.j0 k l0 l1 t109 t110 t113 t116 bt119.1 bt119.2 (bt119.2 != t110)) else (laws_FnExactMergeBlocks.j0 k l0 l1 t109 t110 t113 t116 bt119.1 bt119.2 true)))) = some r := H
      have A14 := Aside0.mk A140
      clear A140
      replace H := Option.bind_eq_some_iff.mp H
      obtain ⟨⟨t119, t120⟩, A150, H⟩ := H
      replace H : ((laws_eqBlockS.f k t119 t109).bind fun t123 => (if t123 = true then (laws_FnExactMergeBlocks.j0 k l0 l1 t109 t110 t113 t116 t119 t120 (t120 != t110)) else (laws_FnExactMergeBlocks.j0 k l0 l1 t109 t110 t113 t116 t119 t120 true))) = some r := H
      have A15 := Aside0.mk A150
      clear A150
      have HC16 := Aside0.mk H
      clear H
      go_enter Try.func12, Try.ntmps12
      go_upto_region 12 with (first | ((with_reducible refine gate_callee (f := 23) rfl ?_); refine goesL_ (some 19) rfl rfl Try.func23 (by kernel_rfl) rfl #[.slice A0 l0.length c0, .int .i64 1048576] rfl (by (try simp only [List.map_toArray, List.map_cons, List.map_nil]); first | done | rfl | (simp only [List.length_drop, List.length_take]; rfl)) ?_; (with_reducible refine (laws_szBlockS.calls k _ _ l0 1048576 t101 _ ?side1 ?side2 A3.out).mono ?_); (case side1 => repeat (first | exact HR0.out | (with_reducible refine Kd.C_alloc ?_ _) | (with_reducible refine Kd.C_drewN ?_ _) | (with_reducible refine Kd.C_drew ?_))); (case side2 => exact HC0.out); rintro e w17 ⟨rfl, hb⟩; refine ⟨_, rfl, ?_⟩; have n0_ := Aside0.mk (below_step (by repeat (first | (with_reducible first | exact HB.out | apply below_alloc | apply pw_below_drewN | apply below_drew1) | exact HB.out)) hb); clear HB; have HB := n0_; clear n0_; (try clear hb); (try clear hb2); (try clear hk); (try clear hi)) | ((with_reducible refine gate_callee (f := 23) rfl ?_); refine goesL_ (some 24) rfl rfl Try.func23 (by kernel_rfl) rfl #[.slice A1 l1.length c1, .int .i64 t101] rfl (by (try simp only [List.map_toArray, List.map_cons, List.map_nil]); first | done | rfl | (simp only [List.length_drop, List.length_take]; rfl)) ?_; (with_reducible refine (laws_szBlockS.calls k _ _ l1 t101 t102 _ ?side1 ?side2 A6.out).mono ?_); (case side1 => repeat (first | exact (Kd.C_below HR1.out HB.out) | (with_reducible refine Kd.C_alloc ?_ _) | (with_reducible refine Kd.C_drewN ?_ _) | (with_reducible refine Kd.C_drew ?_))); (case side2 => exact HC1.out); rintro e w18 ⟨rfl, hb⟩; refine ⟨_, rfl, ?_⟩; have n0_ := Aside0.mk (below_step (by repeat (first | (with_reducible first | exact HB.out | apply below_alloc | apply pw_below_drewN | apply below_drew1) | exact HB.out)) hb); clear HB; have HB := n0_; clear n0_; (try clear hb); (try clear hb2); (try clear hk); (try clear hi)) | ((with_reducible refine gate_callee (f := 25) rfl ?_); refine goesL_ (some 29) rfl rfl Try.func25 (by kernel_rfl) rfl #[.slice A0 l0.length c0] rfl (by (try simp only [List.map_toArray, List.map_cons, List.map_nil]); first | done | rfl | (simp only [List.length_drop, List.length_take]; rfl)) ?_; (with_reducible refine (laws_toBlockS.calls k _ _ l0 t103 _ ?side1 ?side2 A10.out).mono ?_); (case side1 => repeat (first | exact (Kd.C_below HR0.out HB.out) | (with_reducible refine Kd.C_alloc ?_ _) | (with_reducible refine Kd.C_drewN ?_ _) | (with_reducible refine Kd.C_drew ?_))); (case side2 => exact HC0.out); rintro e w19 ⟨v104, rfl, ho0, hb⟩; refine ⟨_, rfl, ?_⟩; have n0_ := Aside0.mk (Kd.R_lower ho0 (below_size (by repeat (first | (with_reducible first | exact HB.out | apply below_alloc | apply pw_below_drewN | apply below_drew1) | exact HB.out)))); have n1_ := Aside0.mk (below_step (by repeat (first | (with_reducible first | exact HB.out | apply below_alloc | apply pw_below_drewN | apply below_drew1) | exact HB.out)) hb); clear HB; have HO105 := n0_; have HB := n1_; clear n0_ n1_; (try clear hb); (try clear hb2); (try clear hk); (try clear hi); (try clear ho0)) | ((with_reducible refine gate_callee (f := 25) rfl ?_); refine goesL_ (some 31) rfl rfl Try.func25 (by kernel_rfl) rfl #[.slice A1 l1.length c1] rfl (by (try simp only [List.map_toArray, List.map_cons, List.map_nil]); first | done | rfl | (simp only [List.length_drop, List.length_take]; rfl)) ?_; (with_reducible refine (laws_toBlockS.calls k _ _ l1 t106 _ ?side1 ?side2 A11.out).mono ?_); (case side1 => repeat (first | exact (Kd.C_below HR1.out HB.out) | (with_reducible refine Kd.C_alloc ?_ _) | (with_reducible refine Kd.C_drewN ?_ _) | (with_reducible refine Kd.C_drew ?_))); (case side2 => exact HC1.out); rintro e w20 ⟨v107, rfl, ho0, hb⟩; refine ⟨_, rfl, ?_⟩; have n0_ := Aside0.mk (Kd.R_elder' (by (with_reducible repeat (first | apply Kd.R_alloc | apply Kd.R_drewN | apply Kd.R_drew)); exact HO105.out) (Kd.R_base ho0) hb); have n1_ := Aside0.mk (Kd.R_lower (Kd.R_new' ho0 (Kd.R_lt (by (with_reducible repeat (first | apply Kd.R_alloc | apply Kd.R_drewN | apply Kd.R_drew)); exact HO105.out))) (below_size (by repeat (first | (with_reducible first | exact HB.out | apply below_alloc | apply pw_below_drewN | apply below_drew1) | exact HB.out)))); have n2_ := Aside0.mk (below_step (by repeat (first | (with_reducible first | exact HB.out | apply below_alloc | apply pw_below_drewN | apply below_drew1) | exact HB.out)) hb); clear HO105; clear HB; have HO105 := n0_; have HO108 := n1_; have HB := n2_; clear n0_ n1_ n2_; (try clear hb); (try clear hb2); (try clear hk); (try clear hi); (try clear ho0); obtain ⟨Ao21, co21, eo21⟩ := Kd.R_slice HO105.out; subst eo21; obtain ⟨Ao22, co22, eo22⟩ := Kd.R_slice HO108.out; subst eo22) | ((with_reducible refine gate_callee (f := 53) rfl ?_); refine goesL_ (some 32) rfl rfl Try.func53 (by kernel_rfl) rfl #[.slice Ao21 t103.length co21, .slice Ao22 t106.length co22] rfl (by (try simp only [List.map_toArray, List.map_cons, List.map_nil]); first | done | rfl | (simp only [List.length_drop, List.length_take]; rfl)) ?_; (with_reducible refine (spec_MergeBlocks.calls k _ _ t103 _ _ t106 t109 t110 _ ?side1 ?side2 ?side3 ?side4 A12.out).mono ?_); (case side1 => repeat (first | exact (Kd.R_reads' HO105.out).2.2 | (with_reducible refine Kd.C_alloc ?_ _) | (with_reducible refine Kd.C_drewN ?_ _) | (with_reducible refine Kd.C_drew ?_))); (case side2 => exact (Kd.R_reads' HO105.out).2.1); (case side3 => repeat (first | exact (Kd.R_reads' HO108.out).2.2 | (with_reducible refine Kd.C_alloc ?_ _) | (with_reducible refine Kd.C_drewN ?_ _) | (with_reducible refine Kd.C_drew ?_))); (case side4 => exact (Kd.R_reads' HO108.out).2.1); rintro e w23 ⟨v111, rfl, ho0, hb⟩; refine ⟨_, rfl, ?_⟩; have n0_ := Aside0.mk (Kd.R_elder' (by (with_reducible repeat (first | apply Kd.R_alloc | apply Kd.R_drewN | apply Kd.R_drew)); exact HO105.out) (Kd.R_base ho0) hb); have n1_ := Aside0.mk (Kd.R_elder' (by (with_reducible repeat (first | apply Kd.R_alloc | apply Kd.R_drewN | apply Kd.R_drew)); exact HO108.out) (Kd.R_base ho0) hb); have n2_ := Aside0.mk (Kd.R_lower (Kd.R_new' (Kd.R_new' ho0 (Kd.R_lt (by (with_reducible repeat (first | apply Kd.R_alloc | apply Kd.R_drewN | apply Kd.R_drew)); exact HO105.out))) (Kd.R_lt (by (with_reducible repeat (first | apply Kd.R_alloc | apply Kd.R_drewN | apply Kd.R_drew)); exact HO108.out))) (below_size (by repeat (first | (with_reducible first | exact HB.out | apply below_alloc | apply pw_below_drewN | apply below_drew1) | exact HB.out)))); have n3_ := Aside0.mk (below_step (by repeat (first | (with_reducible first | exact HB.out | apply below_alloc | apply pw_below_drewN | apply below_drew1) | exact HB.out)) hb); clear HO105; clear HO108; clear HB; have HO105 := n0_; have HO108 := n1_; have HO112 := n2_; have HB := n3_; clear n0_ n1_ n2_ n3_; (try clear hb); (try clear hb2); (try clear hk); (try clear hi); (try clear ho0)) | ((with_reducible refine gate_callee (f := 25) rfl ?_); refine goesL_ (some 36) rfl rfl Try.func25 (by kernel_rfl) rfl #[.slice A0 l0.length c0] rfl (by (try simp only [List.map_toArray, List.map_cons, List.map_nil]); first | done | rfl | (simp only [List.length_drop, List.length_take]; rfl)) ?_; (with_reducible refine (laws_toBlockS.calls k _ _ l0 t113 _ ?side1 ?side2 A13.out).mono ?_); (case side1 => repeat (first | exact (Kd.C_below HR0.out HB.out) | (with_reducible refine Kd.C_alloc ?_ _) | (with_reducible refine Kd.C_drewN ?_ _) | (with_reducible refine Kd.C_drew ?_))); (case side2 => exact HC0.out); rintro e w24 ⟨v114, rfl, ho0, hb⟩; refine ⟨_, rfl, ?_⟩; have n0_ := Aside0.mk (Kd.R_elder' (by (with_reducible repeat (first | apply Kd.R_alloc | apply Kd.R_drewN | apply Kd.R_drew)); exact HO105.out) (Kd.R_base ho0) hb); have n1_ := Aside0.mk (Kd.R_elder' (by (with_reducible repeat (first | apply Kd.R_alloc | apply Kd.R_drewN | apply Kd.R_drew)); exact HO108.out) (Kd.R_base ho0) hb); have n2_ := Aside0.mk (Kd.R_elder' (by (with_reducible repeat (first | apply Kd.R_alloc | apply Kd.R_drewN | apply Kd.R_drew)); exact HO112.out) (Kd.R_base ho0) hb); have n3_ := Aside0.mk (Kd.R_lower (Kd.R_new' (Kd.R_new' (Kd.R_new' ho0 (Kd.R_lt (by (with_reducible repeat (first | apply Kd.R_alloc | apply Kd.R_drewN | apply Kd.R_drew)); exact HO105.out))) (Kd.R_lt (by (with_reducible repeat (first | apply Kd.R_alloc | apply Kd.R_drewN | apply Kd.R_drew)); exact HO108.out))) (Kd.R_lt (by (with_reducible repeat (first | apply Kd.R_alloc | apply Kd.R_drewN | apply Kd.R_drew)); exact HO112.out))) (below_size (by repeat (first | (with_reducible first | exact HB.out | apply below_alloc | apply pw_below_drewN | apply below_drew1) | exact HB.out)))); have n4_ := Aside0.mk (below_step (by repeat (first | (with_reducible first | exact HB.out | apply below_alloc | apply pw_below_drewN | apply below_drew1) | exact HB.out)) hb); clear HO105; clear HO108; clear HO112; clear HB; have HO105 := n0_; have HO108 := n1_; have HO112 := n2_; have HO115 := n3_; have HB := n4_; clear n0_ n1_ n2_ n3_ n4_; (try clear hb); (try clear hb2); (try clear hk); (try clear hi); (try clear ho0)) | ((with_reducible refine gate_callee (f := 25) rfl ?_); refine goesL_ (some 38) rfl rfl Try.func25 (by kernel_rfl) rfl #[.slice A1 l1.length c1] rfl (by (try simp only [List.map_toArray, List.map_cons, List.map_nil]); first | done | rfl | (simp only [List.length_drop, List.length_take]; rfl)) ?_; (with_reducible refine (laws_toBlockS.calls k _ _ l1 t116 _ ?side1 ?side2 A14.out).mono ?_); (case side1 => repeat (first | exact (Kd.C_below HR1.out HB.out) | (with_reducible refine Kd.C_alloc ?_ _) | (with_reducible refine Kd.C_drewN ?_ _) | (with_reducible refine Kd.C_drew ?_))); (case side2 => exact HC1.out); rintro e w25 ⟨v117, rfl, ho0, hb⟩; refine ⟨_, rfl, ?_⟩; have n0_ := Aside0.mk (Kd.R_elder' (by (with_reducible repeat (first | apply Kd.R_alloc | apply Kd.R_drewN | apply Kd.R_drew)); exact HO105.out) (Kd.R_base ho0) hb); have n1_ := Aside0.mk (Kd.R_elder' (by (with_reducible repeat (first | apply Kd.R_alloc | apply Kd.R_drewN | apply Kd.R_drew)); exact HO108.out) (Kd.R_base ho0) hb); have n2_ := Aside0.mk (Kd.R_elder' (by (with_reducible repeat (first | apply Kd.R_alloc | apply Kd.R_drewN | apply Kd.R_drew)); exact HO112.out) (Kd.R_base ho0) hb); have n3_ := Aside0.mk (Kd.R_elder' (by (with_reducible repeat (first | apply Kd.R_alloc | apply Kd.R_drewN | apply Kd.R_drew)); exact HO115.out) (Kd.R_base ho0) hb); have n4_ := Aside0.mk (Kd.R_lower (Kd.R_new' (Kd.R_new' (Kd.R_new' (Kd.R_new' ho0 (Kd.R_lt (by (with_reducible repeat (first | apply Kd.R_alloc | apply Kd.R_drewN | apply Kd.R_drew)); exact HO105.out))) (Kd.R_lt (by (with_reducible repeat (first | apply Kd.R_alloc | apply Kd.R_drewN | apply Kd.R_drew)); exact HO108.out))) (Kd.R_lt (by (with_reducible repeat (first | apply Kd.R_alloc | apply Kd.R_drewN | apply Kd.R_drew)); exact HO112.out))) (Kd.R_lt (by (with_reducible repeat (first | apply Kd.R_alloc | apply Kd.R_drewN | apply Kd.R_drew)); exact HO115.out))) (below_size (by repeat (first | (with_reducible first | exact HB.out | apply below_alloc | apply pw_below_drewN | apply below_drew1) | exact HB.out)))); have n5_ := Aside0.mk (below_step (by repeat (first | (with_reducible first | exact HB.out | apply below_alloc | apply pw_below_drewN | apply below_drew1) | exact HB.out)) hb); clear HO105; clear HO108; clear HO112; clear HO115; clear HB; have HO105 := n0_; have HO108 := n1_; have HO112 := n2_; have HO115 := n3_; have HO118 := n4_; have HB := n5_; clear n0_ n1_ n2_ n3_ n4_ n5_; (try clear hb); (try clear hb2); (try clear hk); (try clear hi); (try clear ho0); obtain ⟨Ao26, co26, eo26⟩ := Kd.R_slice HO115.out; subst eo26; obtain ⟨Ao27, co27, eo27⟩ := Kd.R_slice HO118.out; subst eo27) | ((with_reducible refine gate_callee (f := 54) rfl ?_); refine goesL_ (some 42) rfl rfl Try.func54 (by kernel_rfl) rfl #[.slice Ao26 t113.length co26, .slice Ao27 t116.length co27] rfl (by (try simp only [List.map_toArray, List.map_cons, List.map_nil]); first | done | rfl | (simp only [List.length_drop, List.length_take]; rfl)) ?_; (with_reducible refine (impl_MergeBlocks.calls k _ _ t113 _ _ t116 t119 t120 _ ?side1 ?side2 ?side3 ?side4 A15.out ?side5).mono ?_); (case side1 => repeat (first | exact (Kd.R_reads' HO115.out).2.2 | (with_reducible refine Kd.C_alloc ?_ _) | (with_reducible refine Kd.C_drewN ?_ _) | (with_reducible refine Kd.C_drew ?_))); (case side2 => exact (Kd.R_reads' HO115.out).2.1); (case side3 => repeat (first | exact (Kd.R_reads' HO118.out).2.2 | (with_reducible refine Kd.C_alloc ?_ _) | (with_reducible refine Kd.C_drewN ?_ _) | (with_reducible refine Kd.C_drew ?_))); (case side4 => exact (Kd.R_reads' HO118.out).2.1); (case side5 => exact HasV.below HV.out (by repeat (first | (with_reducible first | exact HB.out | apply below_alloc | apply pw_below_drewN | apply below_drew1) | exact HB.out))); rintro e w28 ⟨v121, rfl, ho0, hb⟩; refine ⟨_, rfl, ?_⟩; have n0_ := Aside0.mk (Kd.R_elder' (by (with_reducible repeat (first | apply Kd.R_alloc | apply Kd.R_drewN | apply Kd.R_drew)); exact HO105.out) (Kd.R_base ho0) hb); have n1_ := Aside0.mk (Kd.R_elder' (by (with_reducible repeat (first | apply Kd.R_alloc | apply Kd.R_drewN | apply Kd.R_drew)); exact HO108.out) (Kd.R_base ho0) hb); have n2_ := Aside0.mk (Kd.R_elder' (by (with_reducible repeat (first | apply Kd.R_alloc | apply Kd.R_drewN | apply Kd.R_drew)); exact HO112.out) (Kd.R_base ho0) hb); have n3_ := Aside0.mk (Kd.R_elder' (by (with_reducible repeat (first | apply Kd.R_alloc | apply Kd.R_drewN | apply Kd.R_drew)); exact HO115.out) (Kd.R_base ho0) hb); have n4_ := Aside0.mk (Kd.R_elder' (by (with_reducible repeat (first | apply Kd.R_alloc | apply Kd.R_drewN | apply Kd.R_drew)); exact HO118.out) (Kd.R_base ho0) hb); have n5_ := Aside0.mk (Kd.R_lower (Kd.R_new' (Kd.R_new' (Kd.R_new' (Kd.R_new' (Kd.R_new' ho0 (Kd.R_lt (by (with_reducible repeat (first | apply Kd.R_alloc | apply Kd.R_drewN | apply Kd.R_drew)); exact HO105.out))) (Kd.R_lt (by (with_reducible repeat (first | apply Kd.R_alloc | apply Kd.R_drewN | apply Kd.R_drew)); exact HO108.out))) (Kd.R_lt (by (with_reducible repeat (first | apply Kd.R_alloc | apply Kd.R_drewN | apply Kd.R_drew)); exact HO112.out))) (Kd.R_lt (by (with_reducible repeat (first | apply Kd.R_alloc | apply Kd.R_drewN | apply Kd.R_drew)); exact HO115.out))) (Kd.R_lt (by (with_reducible repeat (first | apply Kd.R_alloc | apply Kd.R_drewN | apply Kd.R_drew)); exact HO118.out))) (below_size (by repeat (first | (with_reducible first | exact HB.out | apply below_alloc | apply pw_below_drewN | apply below_drew1) | exact HB.out)))); have n6_ := Aside0.mk (below_step (by repeat (first | (with_reducible first | exact HB.out | apply below_alloc | apply pw_below_drewN | apply below_drew1) | exact HB.out)) hb); clear HO105; clear HO108; clear HO112; clear HO115; clear HO118; clear HB; have HO105 := n0_; have HO108 := n1_; have HO112 := n2_; have HO115 := n3_; have HO118 := n4_; have HO122 := n5_; have HB := n6_; clear n0_ n1_ n2_ n3_ n4_ n5_ n6_; (try clear hb); (try clear hb2); (try clear hk); (try clear hi); (try clear ho0)))
      (try simp only [Act.put, List.setIfInBounds_toArray, List.set_cons_zero, List.set_cons_succ])
      go_cut [53] (fun v53 wc => ∃ (kq : Nat) (x53_15 : Bool), v53 = .bool x53_15 ∧ Aside0 (laws_FnExactMergeBlocks.j0 kq l0 l1 t109 t110 t113 t116 t119 t120 x53_15 = some r) ∧ Aside0 (kq ≤ k) ∧ Aside0 (Kd.R k69 69 wc w.heap.size (fun k_ => some k_ ≠ ((.slice Ao26 t113.length co26) : Value).ownBlock ∧ some k_ ≠ ((.slice Ao27 t116.length co27) : Value).ownBlock ∧ some k_ ≠ (v121 : Value).ownBlock) v111 t109) ∧ Aside0 (Kd.R k69 69 wc w.heap.size (fun k_ => some k_ ≠ (v111 : Value).ownBlock ∧ some k_ ≠ ((.slice Ao27 t116.length co27) : Value).ownBlock ∧ some k_ ≠ (v121 : Value).ownBlock) (.slice Ao26 t113.length co26) t113) ∧ Aside0 (Kd.R k69 69 wc w.heap.size (fun k_ => some k_ ≠ (v111 : Value).ownBlock ∧ some k_ ≠ ((.slice Ao26 t113.length co26) : Value).ownBlock ∧ some k_ ≠ (v121 : Value).ownBlock) (.slice Ao27 t116.length co27) t116) ∧ Aside0 (Kd.R k69 69 wc w.heap.size (fun k_ => some k_ ≠ (v111 : Value).ownBlock ∧ some k_ ≠ ((.slice Ao26 t113.length co26) : Value).ownBlock ∧ some k_ ≠ ((.slice Ao27 t116.length co27) : Value).ownBlock) v121 t119) ∧ Aside0 (Below w.heap.size w wc))
      case first =>
        have H := HC16.out
        clear HC16
        replace H := Option.bind_eq_some_iff.mp H
        obtain ⟨t123, A290, H⟩ := H
        replace H : (if t123 = true then (laws_FnExactMergeBlocks.j0 k l0 l1 t109 t110 t113 t116 t119 t120 (t120 != t110)) else (laws_FnExactMergeBlocks.j0 k l0 l1 t109 t110 t113 t116 t119 t120 true)) = some r := H
        have A29 := Aside0.mk A290
        clear A290
        by_cases c30 : t123 = true
        · subst c30
          have H1 : (laws_FnExactMergeBlocks.j0 k l0 l1 t109 t110 t113 t116 t119 t120 (t120 != t110)) = some r := by rw [if_pos rfl] at H; exact H
          clear H
          have H := H1
          clear H1
          have H' := Aside0.mk H
          clear H
          obtain ⟨Ao31, co31, eo31⟩ := Kd.R_slice HO122.out
          subst eo31
          obtain ⟨Ao32, co32, eo32⟩ := Kd.R_slice HO112.out
          subst eo32
          go_wp2_with (first | ((with_reducible refine gate_callee (f := 27) rfl ?_); refine goesL_ (some 47) rfl rfl Try.func27 (by kernel_rfl) rfl #[.slice Ao31 t119.length co31, .slice Ao32 t109.length co32] rfl (by (try simp only [List.map_toArray, List.map_cons, List.map_nil]); first | done | rfl | (simp only [List.length_drop, List.length_take]; rfl)) ?_; (with_reducible refine (laws_eqBlockS.calls k _ _ t119 _ _ t109 true _ ?side1 ?side2 ?side3 ?side4 A29.out).mono ?_); (case side1 => repeat (first | exact (Kd.R_reads' HO122.out).2.2 | (with_reducible refine Kd.C_alloc ?_ _) | (with_reducible refine Kd.C_drewN ?_ _) | (with_reducible refine Kd.C_drew ?_))); (case side2 => exact (Kd.R_reads' HO122.out).2.1); (case side3 => repeat (first | exact (Kd.R_reads' HO112.out).2.2 | (with_reducible refine Kd.C_alloc ?_ _) | (with_reducible refine Kd.C_drewN ?_ _) | (with_reducible refine Kd.C_drew ?_))); (case side4 => exact (Kd.R_reads' HO112.out).2.1); rintro e w33 ⟨rfl, hb⟩; refine ⟨_, rfl, ?_⟩; have n0_ := Aside0.mk (Kd.R_below (by (with_reducible repeat (first | apply Kd.R_alloc | apply Kd.R_drewN | apply Kd.R_drew)); exact HO105.out) hb); have n1_ := Aside0.mk (Kd.R_below (by (with_reducible repeat (first | apply Kd.R_alloc | apply Kd.R_drewN | apply Kd.R_drew)); exact HO108.out) hb); have n2_ := Aside0.mk (Kd.R_below (by (with_reducible repeat (first | apply Kd.R_alloc | apply Kd.R_drewN | apply Kd.R_drew)); exact HO112.out) hb); have n3_ := Aside0.mk (Kd.R_below (by (with_reducible repeat (first | apply Kd.R_alloc | apply Kd.R_drewN | apply Kd.R_drew)); exact HO115.out) hb); have n4_ := Aside0.mk (Kd.R_below (by (with_reducible repeat (first | apply Kd.R_alloc | apply Kd.R_drewN | apply Kd.R_drew)); exact HO118.out) hb); have n5_ := Aside0.mk (Kd.R_below (by (with_reducible repeat (first | apply Kd.R_alloc | apply Kd.R_drewN | apply Kd.R_drew)); exact HO122.out) hb); have n6_ := Aside0.mk (below_step (by repeat (first | (with_reducible first | exact HB.out | apply below_alloc | apply pw_below_drewN | apply below_drew1) | exact HB.out)) hb); clear HO105; clear HO108; clear HO112; clear HO115; clear HO118; clear HO122; clear HB; have HO105 := n0_; have HO108 := n1_; have HO112 := n2_; have HO115 := n3_; have HO118 := n4_; have HO122 := n5_; have HB := n6_; clear n0_ n1_ n2_ n3_ n4_ n5_ n6_; (try clear hb); (try clear hb2); (try clear hk); (try clear hi)))
          go_meet
          case rel => exact ⟨_, ((t120 != t110)), (by first | rfl | (simp; done) | (simp [*]; done)), H', ⟨by first | omega | exact Nat.le_refl _⟩, ⟨by (with_reducible repeat (first | apply Kd.R_alloc | apply Kd.R_drewN | apply Kd.R_drew)); exact Kd.R_mono HO112.out (fun _ hk => ⟨hk.1.1.2, ⟨hk.1.2, hk.2⟩⟩)⟩, ⟨by (with_reducible repeat (first | apply Kd.R_alloc | apply Kd.R_drewN | apply Kd.R_drew)); exact Kd.R_mono HO115.out (fun _ hk => ⟨hk.1.1.2, ⟨hk.1.2, hk.2⟩⟩)⟩, ⟨by (with_reducible repeat (first | apply Kd.R_alloc | apply Kd.R_drewN | apply Kd.R_drew)); exact Kd.R_mono HO118.out (fun _ hk => ⟨hk.1.1.2, ⟨hk.1.2, hk.2⟩⟩)⟩, ⟨by (with_reducible repeat (first | apply Kd.R_alloc | apply Kd.R_drewN | apply Kd.R_drew)); exact Kd.R_mono HO122.out (fun _ hk => ⟨hk.1.1.2, ⟨hk.1.2, hk.2⟩⟩)⟩, ⟨by repeat (first | (with_reducible first | exact HB.out | apply below_alloc | apply pw_below_drewN | apply below_drew1) | exact HB.out)⟩⟩
        · replace c30 := Bool.eq_false_iff.mpr c30
          subst c30
          have H1 : (laws_FnExactMergeBlocks.j0 k l0 l1 t109 t110 t113 t116 t119 t120 true) = some r := by rw [if_neg (show ¬ (false = true) by decide)] at H; exact H
          clear H
          have H := H1
          clear H1
          have H' := Aside0.mk H
          clear H
          obtain ⟨Ao34, co34, eo34⟩ := Kd.R_slice HO122.out
          subst eo34
          obtain ⟨Ao35, co35, eo35⟩ := Kd.R_slice HO112.out
          subst eo35
          go_wp2_with (first | ((with_reducible refine gate_callee (f := 27) rfl ?_); refine goesL_ (some 47) rfl rfl Try.func27 (by kernel_rfl) rfl #[.slice Ao34 t119.length co34, .slice Ao35 t109.length co35] rfl (by (try simp only [List.map_toArray, List.map_cons, List.map_nil]); first | done | rfl | (simp only [List.length_drop, List.length_take]; rfl)) ?_; (with_reducible refine (laws_eqBlockS.calls k _ _ t119 _ _ t109 false _ ?side1 ?side2 ?side3 ?side4 A29.out).mono ?_); (case side1 => repeat (first | exact (Kd.R_reads' HO122.out).2.2 | (with_reducible refine Kd.C_alloc ?_ _) | (with_reducible refine Kd.C_drewN ?_ _) | (with_reducible refine Kd.C_drew ?_))); (case side2 => exact (Kd.R_reads' HO122.out).2.1); (case side3 => repeat (first | exact (Kd.R_reads' HO112.out).2.2 | (with_reducible refine Kd.C_alloc ?_ _) | (with_reducible refine Kd.C_drewN ?_ _) | (with_reducible refine Kd.C_drew ?_))); (case side4 => exact (Kd.R_reads' HO112.out).2.1); rintro e w36 ⟨rfl, hb⟩; refine ⟨_, rfl, ?_⟩; have n0_ := Aside0.mk (Kd.R_below (by (with_reducible repeat (first | apply Kd.R_alloc | apply Kd.R_drewN | apply Kd.R_drew)); exact HO105.out) hb); have n1_ := Aside0.mk (Kd.R_below (by (with_reducible repeat (first | apply Kd.R_alloc | apply Kd.R_drewN | apply Kd.R_drew)); exact HO108.out) hb); have n2_ := Aside0.mk (Kd.R_below (by (with_reducible repeat (first | apply Kd.R_alloc | apply Kd.R_drewN | apply Kd.R_drew)); exact HO112.out) hb); have n3_ := Aside0.mk (Kd.R_below (by (with_reducible repeat (first | apply Kd.R_alloc | apply Kd.R_drewN | apply Kd.R_drew)); exact HO115.out) hb); have n4_ := Aside0.mk (Kd.R_below (by (with_reducible repeat (first | apply Kd.R_alloc | apply Kd.R_drewN | apply Kd.R_drew)); exact HO118.out) hb); have n5_ := Aside0.mk (Kd.R_below (by (with_reducible repeat (first | apply Kd.R_alloc | apply Kd.R_drewN | apply Kd.R_drew)); exact HO122.out) hb); have n6_ := Aside0.mk (below_step (by repeat (first | (with_reducible first | exact HB.out | apply below_alloc | apply pw_below_drewN | apply below_drew1) | exact HB.out)) hb); clear HO105; clear HO108; clear HO112; clear HO115; clear HO118; clear HO122; clear HB; have HO105 := n0_; have HO108 := n1_; have HO112 := n2_; have HO115 := n3_; have HO118 := n4_; have HO122 := n5_; have HB := n6_; clear n0_ n1_ n2_ n3_ n4_ n5_ n6_; (try clear hb); (try clear hb2); (try clear hk); (try clear hi)))
          go_meet
          case rel => exact ⟨_, (true), (by first | rfl | (simp; done) | (simp [*]; done)), H', ⟨by first | omega | exact Nat.le_refl _⟩, ⟨by (with_reducible repeat (first | apply Kd.R_alloc | apply Kd.R_drewN | apply Kd.R_drew)); exact Kd.R_mono HO112.out (fun _ hk => ⟨hk.1.1.2, ⟨hk.1.2, hk.2⟩⟩)⟩, ⟨by (with_reducible repeat (first | apply Kd.R_alloc | apply Kd.R_drewN | apply Kd.R_drew)); exact Kd.R_mono HO115.out (fun _ hk => ⟨hk.1.1.2, ⟨hk.1.2, hk.2⟩⟩)⟩, ⟨by (with_reducible repeat (first | apply Kd.R_alloc | apply Kd.R_drewN | apply Kd.R_drew)); exact Kd.R_mono HO118.out (fun _ hk => ⟨hk.1.1.2, ⟨hk.1.2, hk.2⟩⟩)⟩, ⟨by (with_reducible repeat (first | apply Kd.R_alloc | apply Kd.R_drewN | apply Kd.R_drew)); exact Kd.R_mono HO122.out (fun _ hk => ⟨hk.1.1.2, ⟨hk.1.2, hk.2⟩⟩)⟩, ⟨by repeat (first | (with_reducible first | exact HB.out | apply below_alloc | apply pw_below_drewN | apply below_drew1) | exact HB.out)⟩⟩
      case rest =>
        clear HC16
        try clear c1
        try clear c2
        try clear p2
        try clear c3
        try clear c4
        try clear c4b0
        try clear c5
        try clear c7
        try clear c7b0
        try clear c12
        try clear c23
        try clear c25
        try clear c27
        try clear c30
        obtain ⟨kq, x53_15, rfl, HA, HJ15, HO_6, HO_8, HO_9, HO_10, HB⟩ := hcut
        cases kq with
        | zero => exact absurd HA.out (by simp [laws_FnExactMergeBlocks.j0])
        | succ kj15 =>
          have H := HA.out
          clear HA
          simp only [laws_FnExactMergeBlocks.j0] at H
          by_cases c37 : x53_15 = true
          · subst c37
            have H1 : (some false) = some r := by rw [if_pos rfl] at H; exact H
            clear H
            have H := H1
            clear H1
            obtain rfl := Option.some.inj H
            go_wp2
            go_ret
            exact ⟨by first | rfl | (simp [errW_none, errW_some] <;> rfl) | (simp [*, errW_none, errW_some] <;> rfl), by repeat (first | (with_reducible first | exact HB.out | apply below_alloc | apply pw_below_drewN | apply below_drew1) | exact HB.out)⟩
          · replace c37 := Bool.eq_false_iff.mpr c37
            subst c37
            have H1 : ((laws_toBlockS.f kj15 l0).bind fun t124 => ((laws_eqBlockS.f kj15 t113 t124).bind fun t127 => (if t127 = true then ((laws_toBlockS.f kj15 l1).bind fun t128 => ((laws_eqBlockS.f kj15 t116 t128).bind fun t131 => (if t131 = true then ((laws_markBlockS.f kj15 t113 1).bind fun bt132 => ((laws_markBlockS.f kj15 t116 bt132.1).bind fun bt134 => (if bt134.1 < 0 then (laws_FnExactMergeBlocks.j1 kj15 l0 l1 t109 t110 t119 true) else ((laws_eqBlockS.f kj15 t119 t109).bind fun t136 => (if t136 = true then (laws_FnExactMergeBlocks.j1 kj15 l0 l1 t109 t110 t119 (t120 != t110)) else (laws_FnExactMergeBlocks.j1 kj15 l0 l1 t109 t110 t119 true)))))) else (some false)))) else (some false)))) = some r := by rw [if_neg (show ¬ (false = true) by decide)] at H; exact H
            clear H
            have H := H1
            clear H1
            replace H := Option.bind_eq_some_iff.mp H
            obtain ⟨t124, A380, H⟩ := H
            replace H : ((laws_eqBlockS.f kj15 t113 t124).bind fun t127 => (if t127 = true then ((laws_toBlockS.f kj15 l1).bind fun t128 => ((laws_eqBlockS.f kj15 t116 t128).bind fun t131 => (if t131 = true then ((laws_markBlockS.f kj15 t113 1).bind fun bt132 => ((laws_markBlockS.f kj15 t116 bt132.1).bind fun bt134 => (if bt134.1 < 0 then (laws_FnExactMergeBlocks.j1 kj15 l0 l1 t109 t110 t119 true) else ((laws_eqBlockS.f kj15 t119 t109).bind fun t136 => (if t136 = true then (laws_FnExactMergeBlocks.j1 kj15 l0 l1 t109 t110 t119 (t120 != t110)) else (laws_FnExactMergeBlocks.j1 kj15 l0 l1 t109 t110 t119 true)))))) else (some false)))) else (some false))) = some r := H
            have A38 := Aside0.mk A380
            clear A380
            replace H := Option.bind_eq_some_iff.mp H
            obtain ⟨t127, A390, H⟩ := H
            replace H : (if t127 = true then ((laws_toBlockS.f kj15 l1).bind fun t128 => ((laws_eqBlockS.f kj15 t116 t128).bind fun t131 => (if t131 = true then ((laws_markBlockS.f kj15 t113 1).bind fun bt132 => ((laws_markBlockS.f kj15 t116 bt132.1).bind fun bt134 => (if bt134.1 < 0 then (laws_FnExactMergeBlocks.j1 kj15 l0 l1 t109 t110 t119 true) else ((laws_eqBlockS.f kj15 t119 t109).bind fun t136 => (if t136 = true then (laws_FnExactMergeBlocks.j1 kj15 l0 l1 t109 t110 t119 (t120 != t110)) else (laws_FnExactMergeBlocks.j1 kj15 l0 l1 t109 t110 t119 true)))))) else (some false)))) else (some false)) = some r := H
            have A39 := Aside0.mk A390
            clear A390
            by_cases c40 : t127 = true
            · subst c40
              have H1 : ((laws_toBlockS.f kj15 l1).bind fun t128 => ((laws_eqBlockS.f kj15 t116 t128).bind fun t131 => (if t131 = true then ((laws_markBlockS.f kj15 t113 1).bind fun bt132 => ((laws_markBlockS.f kj15 t116 bt132.1).bind fun bt134 => (if bt134.1 < 0 then (laws_FnExactMergeBlocks.j1 kj15 l0 l1 t109 t110 t119 true) else ((laws_eqBlockS.f kj15 t119 t109).bind fun t136 => (if t136 = true then (laws_FnExactMergeBlocks.j1 kj15 l0 l1 t109 t110 t119 (t120 != t110)) else (laws_FnExactMergeBlocks.j1 kj15 l0 l1 t109 t110 t119 true)))))) else (some false)))) = some r := by rw [if_pos rfl] at H; exact H
              clear H
              have H := H1
              clear H1
              replace H := Option.bind_eq_some_iff.mp H
              obtain ⟨t128, A410, H⟩ := H
              replace H : ((laws_eqBlockS.f kj15 t116 t128).bind fun t131 => (if t131 = true then ((laws_markBlockS.f kj15 t113 1).bind fun bt132 => ((laws_markBlockS.f kj15 t116 bt132.1).bind fun bt134 => (if bt134.1 < 0 then (laws_FnExactMergeBlocks.j1 kj15 l0 l1 t109 t110 t119 true) else ((laws_eqBlockS.f kj15 t119 t109).bind fun t136 => (if t136 = true then (laws_FnExactMergeBlocks.j1 kj15 l0 l1 t109 t110 t119 (t120 != t110)) else (laws_FnExactMergeBlocks.j1 kj15 l0 l1 t109 t110 t119 true)))))) else (some false))) = some r := H
              have A41 := Aside0.mk A410
              clear A410
              replace H := Option.bind_eq_some_iff.mp H
              obtain ⟨t131, A420, H⟩ := H
              replace H : (if t131 = true then ((laws_markBlockS.f kj15 t113 1).bind fun bt132 => ((laws_markBlockS.f kj15 t116 bt132.1).bind fun bt134 => (if bt134.1 < 0 then (laws_FnExactMergeBlocks.j1 kj15 l0 l1 t109 t110 t119 true) else ((laws_eqBlockS.f kj15 t119 t109).bind fun t136 => (if t136 = true then (laws_FnExactMergeBlocks.j1 kj15 l0 l1 t109 t110 t119 (t120 != t110)) else (laws_FnExactMergeBlocks.j1 kj15 l0 l1 t109 t110 t119 true)))))) else (some false)) = some r := H
              have A42 := Aside0.mk A420
              clear A420
              by_cases c43 : t131 = true
              · subst c43
                have H1 : ((laws_markBlockS.f kj15 t113 1).bind fun bt132 => ((laws_markBlockS.f kj15 t116 bt132.1).bind fun bt134 => (if bt134.1 < 0 then (laws_FnExactMergeBlocks.j1 kj15 l0 l1 t109 t110 t119 true) else ((laws_eqBlockS.f kj15 t119 t109).bind fun t136 => (if t136 = true then (laws_FnExactMergeBlocks.j1 kj15 l0 l1 t109 t110 t119 (t120 != t110)) else (laws_FnExactMergeBlocks.j1 kj15 l0 l1 t109 t110 t119 true)))))) = some r := by rw [if_pos rfl] at H; exact H
                clear H
                have H := H1
                clear H1
                replace H := Option.bind_eq_some_iff.mp H
                obtain ⟨⟨t132, t133⟩, A440, H⟩ := H
                replace H : ((laws_markBlockS.f kj15 t116 t132).bind fun bt134 => (if bt134.1 < 0 then (laws_FnExactMergeBlocks.j1 kj15 l0 l1 t109 t110 t119 true) else ((laws_eqBlockS.f kj15 t119 t109).bind fun t136 => (if t136 = true then (laws_FnExactMergeBlocks.j1 kj15 l0 l1 t109 t110 t119 (t120 != t110)) else (laws_FnExactMergeBlocks.j1 kj15 l0 l1 t109 t110 t119 true))))) = some r := H
                have A44 := Aside0.mk A440
                clear A440
                replace H := Option.bind_eq_some_iff.mp H
                obtain ⟨⟨t134, t135⟩, A450, H⟩ := H
                replace H : (if t134 < 0 then (laws_FnExactMergeBlocks.j1 kj15 l0 l1 t109 t110 t119 true) else ((laws_eqBlockS.f kj15 t119 t109).bind fun t136 => (if t136 = true then (laws_FnExactMergeBlocks.j1 kj15 l0 l1 t109 t110 t119 (t120 != t110)) else (laws_FnExactMergeBlocks.j1 kj15 l0 l1 t109 t110 t119 true)))) = some r := H
                have A45 := Aside0.mk A450
                clear A450
                have HC46 := Aside0.mk H
                clear H
                go_upto_region 21 with (first | ((with_reducible refine gate_callee (f := 25) rfl ?_); refine goesL_ (some 56) rfl rfl Try.func25 (by kernel_rfl) rfl #[.slice A0 l0.length c0] rfl (by (try simp only [List.map_toArray, List.map_cons, List.map_nil]); first | done | rfl | (simp only [List.length_drop, List.length_take]; rfl)) ?_; (with_reducible refine (laws_toBlockS.calls kj15 _ _ l0 t124 _ ?side1 ?side2 A38.out).mono ?_); (case side1 => repeat (first | exact (Kd.C_below HR0.out HB.out) | (with_reducible refine Kd.C_alloc ?_ _) | (with_reducible refine Kd.C_drewN ?_ _) | (with_reducible refine Kd.C_drew ?_))); (case side2 => exact HC0.out); rintro e w47 ⟨v125, rfl, ho0, hb⟩; refine ⟨_, rfl, ?_⟩; have n0_ := Aside0.mk (Kd.R_elder' (by (with_reducible repeat (first | apply Kd.R_alloc | apply Kd.R_drewN | apply Kd.R_drew)); exact HO_6.out) (Kd.R_base ho0) hb); have n1_ := Aside0.mk (Kd.R_elder' (by (with_reducible repeat (first | apply Kd.R_alloc | apply Kd.R_drewN | apply Kd.R_drew)); exact HO_8.out) (Kd.R_base ho0) hb); have n2_ := Aside0.mk (Kd.R_elder' (by (with_reducible repeat (first | apply Kd.R_alloc | apply Kd.R_drewN | apply Kd.R_drew)); exact HO_9.out) (Kd.R_base ho0) hb); have n3_ := Aside0.mk (Kd.R_elder' (by (with_reducible repeat (first | apply Kd.R_alloc | apply Kd.R_drewN | apply Kd.R_drew)); exact HO_10.out) (Kd.R_base ho0) hb); have n4_ := Aside0.mk (Kd.R_lower (Kd.R_new' (Kd.R_new' (Kd.R_new' (Kd.R_new' ho0 (Kd.R_lt (by (with_reducible repeat (first | apply Kd.R_alloc | apply Kd.R_drewN | apply Kd.R_drew)); exact HO_6.out))) (Kd.R_lt (by (with_reducible repeat (first | apply Kd.R_alloc | apply Kd.R_drewN | apply Kd.R_drew)); exact HO_8.out))) (Kd.R_lt (by (with_reducible repeat (first | apply Kd.R_alloc | apply Kd.R_drewN | apply Kd.R_drew)); exact HO_9.out))) (Kd.R_lt (by (with_reducible repeat (first | apply Kd.R_alloc | apply Kd.R_drewN | apply Kd.R_drew)); exact HO_10.out))) (below_size (by repeat (first | (with_reducible first | exact HB.out | apply below_alloc | apply pw_below_drewN | apply below_drew1) | exact HB.out)))); have n5_ := Aside0.mk (below_step (by repeat (first | (with_reducible first | exact HB.out | apply below_alloc | apply pw_below_drewN | apply below_drew1) | exact HB.out)) hb); clear HO_6; clear HO_8; clear HO_9; clear HO_10; clear HB; have HO_6 := n0_; have HO_8 := n1_; have HO_9 := n2_; have HO_10 := n3_; have HO126 := n4_; have HB := n5_; clear n0_ n1_ n2_ n3_ n4_ n5_; (try clear hb); (try clear hb2); (try clear hk); (try clear hi); (try clear ho0); obtain ⟨Ao48, co48, eo48⟩ := Kd.R_slice HO126.out; subst eo48) | ((with_reducible refine gate_callee (f := 27) rfl ?_); refine goesL_ (some 57) rfl rfl Try.func27 (by kernel_rfl) rfl #[.slice Ao26 t113.length co26, .slice Ao48 t124.length co48] rfl (by (try simp only [List.map_toArray, List.map_cons, List.map_nil]); first | done | rfl | (simp only [List.length_drop, List.length_take]; rfl)) ?_; (with_reducible refine (laws_eqBlockS.calls kj15 _ _ t113 _ _ t124 true _ ?side1 ?side2 ?side3 ?side4 A39.out).mono ?_); (case side1 => repeat (first | exact (Kd.R_reads' HO_8.out).2.2 | (with_reducible refine Kd.C_alloc ?_ _) | (with_reducible refine Kd.C_drewN ?_ _) | (with_reducible refine Kd.C_drew ?_))); (case side2 => exact (Kd.R_reads' HO_8.out).2.1); (case side3 => repeat (first | exact (Kd.R_reads' HO126.out).2.2 | (with_reducible refine Kd.C_alloc ?_ _) | (with_reducible refine Kd.C_drewN ?_ _) | (with_reducible refine Kd.C_drew ?_))); (case side4 => exact (Kd.R_reads' HO126.out).2.1); rintro e w49 ⟨rfl, hb⟩; refine ⟨_, rfl, ?_⟩; have n0_ := Aside0.mk (Kd.R_below (by (with_reducible repeat (first | apply Kd.R_alloc | apply Kd.R_drewN | apply Kd.R_drew)); exact HO_6.out) hb); have n1_ := Aside0.mk (Kd.R_below (by (with_reducible repeat (first | apply Kd.R_alloc | apply Kd.R_drewN | apply Kd.R_drew)); exact HO_8.out) hb); have n2_ := Aside0.mk (Kd.R_below (by (with_reducible repeat (first | apply Kd.R_alloc | apply Kd.R_drewN | apply Kd.R_drew)); exact HO_9.out) hb); have n3_ := Aside0.mk (Kd.R_below (by (with_reducible repeat (first | apply Kd.R_alloc | apply Kd.R_drewN | apply Kd.R_drew)); exact HO_10.out) hb); have n4_ := Aside0.mk (Kd.R_below (by (with_reducible repeat (first | apply Kd.R_alloc | apply Kd.R_drewN | apply Kd.R_drew)); exact HO126.out) hb); have n5_ := Aside0.mk (below_step (by repeat (first | (with_reducible first | exact HB.out | apply below_alloc | apply pw_below_drewN | apply below_drew1) | exact HB.out)) hb); clear HO_6; clear HO_8; clear HO_9; clear HO_10; clear HO126; clear HB; have HO_6 := n0_; have HO_8 := n1_; have HO_9 := n2_; have HO_10 := n3_; have HO126 := n4_; have HB := n5_; clear n0_ n1_ n2_ n3_ n4_ n5_; (try clear hb); (try clear hb2); (try clear hk); (try clear hi)) | ((with_reducible refine gate_callee (f := 25) rfl ?_); refine goesL_ (some 61) rfl rfl Try.func25 (by kernel_rfl) rfl #[.slice A1 l1.length c1] rfl (by (try simp only [List.map_toArray, List.map_cons, List.map_nil]); first | done | rfl | (simp only [List.length_drop, List.length_take]; rfl)) ?_; (with_reducible refine (laws_toBlockS.calls kj15 _ _ l1 t128 _ ?side1 ?side2 A41.out).mono ?_); (case side1 => repeat (first | exact (Kd.C_below HR1.out HB.out) | (with_reducible refine Kd.C_alloc ?_ _) | (with_reducible refine Kd.C_drewN ?_ _) | (with_reducible refine Kd.C_drew ?_))); (case side2 => exact HC1.out); rintro e w50 ⟨v129, rfl, ho0, hb⟩; refine ⟨_, rfl, ?_⟩; have n0_ := Aside0.mk (Kd.R_elder' (by (with_reducible repeat (first | apply Kd.R_alloc | apply Kd.R_drewN | apply Kd.R_drew)); exact HO_6.out) (Kd.R_base ho0) hb); have n1_ := Aside0.mk (Kd.R_elder' (by (with_reducible repeat (first | apply Kd.R_alloc | apply Kd.R_drewN | apply Kd.R_drew)); exact HO_8.out) (Kd.R_base ho0) hb); have n2_ := Aside0.mk (Kd.R_elder' (by (with_reducible repeat (first | apply Kd.R_alloc | apply Kd.R_drewN | apply Kd.R_drew)); exact HO_9.out) (Kd.R_base ho0) hb); have n3_ := Aside0.mk (Kd.R_elder' (by (with_reducible repeat (first | apply Kd.R_alloc | apply Kd.R_drewN | apply Kd.R_drew)); exact HO_10.out) (Kd.R_base ho0) hb); have n4_ := Aside0.mk (Kd.R_elder' (by (with_reducible repeat (first | apply Kd.R_alloc | apply Kd.R_drewN | apply Kd.R_drew)); exact HO126.out) (Kd.R_base ho0) hb); have n5_ := Aside0.mk (Kd.R_lower (Kd.R_new' (Kd.R_new' (Kd.R_new' (Kd.R_new' (Kd.R_new' ho0 (Kd.R_lt (by (with_reducible repeat (first | apply Kd.R_alloc | apply Kd.R_drewN | apply Kd.R_drew)); exact HO_6.out))) (Kd.R_lt (by (with_reducible repeat (first | apply Kd.R_alloc | apply Kd.R_drewN | apply Kd.R_drew)); exact HO_8.out))) (Kd.R_lt (by (with_reducible repeat (first | apply Kd.R_alloc | apply Kd.R_drewN | apply Kd.R_drew)); exact HO_9.out))) (Kd.R_lt (by (with_reducible repeat (first | apply Kd.R_alloc | apply Kd.R_drewN | apply Kd.R_drew)); exact HO_10.out))) (Kd.R_lt (by (with_reducible repeat (first | apply Kd.R_alloc | apply Kd.R_drewN | apply Kd.R_drew)); exact HO126.out))) (below_size (by repeat (first | (with_reducible first | exact HB.out | apply below_alloc | apply pw_below_drewN | apply below_drew1) | exact HB.out)))); have n6_ := Aside0.mk (below_step (by repeat (first | (with_reducible first | exact HB.out | apply below_alloc | apply pw_below_drewN | apply below_drew1) | exact HB.out)) hb); clear HO_6; clear HO_8; clear HO_9; clear HO_10; clear HO126; clear HB; have HO_6 := n0_; have HO_8 := n1_; have HO_9 := n2_; have HO_10 := n3_; have HO126 := n4_; have HO130 := n5_; have HB := n6_; clear n0_ n1_ n2_ n3_ n4_ n5_ n6_; (try clear hb); (try clear hb2); (try clear hk); (try clear hi); (try clear ho0); obtain ⟨Ao51, co51, eo51⟩ := Kd.R_slice HO130.out; subst eo51) | ((with_reducible refine gate_callee (f := 27) rfl ?_); refine goesL_ (some 62) rfl rfl Try.func27 (by kernel_rfl) rfl #[.slice Ao27 t116.length co27, .slice Ao51 t128.length co51] rfl (by (try simp only [List.map_toArray, List.map_cons, List.map_nil]); first | done | rfl | (simp only [List.length_drop, List.length_take]; rfl)) ?_; (with_reducible refine (laws_eqBlockS.calls kj15 _ _ t116 _ _ t128 true _ ?side1 ?side2 ?side3 ?side4 A42.out).mono ?_); (case side1 => repeat (first | exact (Kd.R_reads' HO_9.out).2.2 | (with_reducible refine Kd.C_alloc ?_ _) | (with_reducible refine Kd.C_drewN ?_ _) | (with_reducible refine Kd.C_drew ?_))); (case side2 => exact (Kd.R_reads' HO_9.out).2.1); (case side3 => repeat (first | exact (Kd.R_reads' HO130.out).2.2 | (with_reducible refine Kd.C_alloc ?_ _) | (with_reducible refine Kd.C_drewN ?_ _) | (with_reducible refine Kd.C_drew ?_))); (case side4 => exact (Kd.R_reads' HO130.out).2.1); rintro e w52 ⟨rfl, hb⟩; refine ⟨_, rfl, ?_⟩; have n0_ := Aside0.mk (Kd.R_below (by (with_reducible repeat (first | apply Kd.R_alloc | apply Kd.R_drewN | apply Kd.R_drew)); exact HO_6.out) hb); have n1_ := Aside0.mk (Kd.R_below (by (with_reducible repeat (first | apply Kd.R_alloc | apply Kd.R_drewN | apply Kd.R_drew)); exact HO_8.out) hb); have n2_ := Aside0.mk (Kd.R_below (by (with_reducible repeat (first | apply Kd.R_alloc | apply Kd.R_drewN | apply Kd.R_drew)); exact HO_9.out) hb); have n3_ := Aside0.mk (Kd.R_below (by (with_reducible repeat (first | apply Kd.R_alloc | apply Kd.R_drewN | apply Kd.R_drew)); exact HO_10.out) hb); have n4_ := Aside0.mk (Kd.R_below (by (with_reducible repeat (first | apply Kd.R_alloc | apply Kd.R_drewN | apply Kd.R_drew)); exact HO126.out) hb); have n5_ := Aside0.mk (Kd.R_below (by (with_reducible repeat (first | apply Kd.R_alloc | apply Kd.R_drewN | apply Kd.R_drew)); exact HO130.out) hb); have n6_ := Aside0.mk (below_step (by repeat (first | (with_reducible first | exact HB.out | apply below_alloc | apply pw_below_drewN | apply below_drew1) | exact HB.out)) hb); clear HO_6; clear HO_8; clear HO_9; clear HO_10; clear HO126; clear HO130; clear HB; have HO_6 := n0_; have HO_8 := n1_; have HO_9 := n2_; have HO_10 := n3_; have HO126 := n4_; have HO130 := n5_; have HB := n6_; clear n0_ n1_ n2_ n3_ n4_ n5_ n6_; (try clear hb); (try clear hb2); (try clear hk); (try clear hi)) | ((with_reducible refine gate_callee (f := 36) rfl ?_); refine goesL_ (some 66) rfl rfl Try.func36 (by kernel_rfl) rfl #[.slice Ao26 t113.length co26, .int .i64 1] rfl (by (try simp only [List.map_toArray, List.map_cons, List.map_nil]); first | done | rfl | (simp only [List.length_drop, List.length_take]; rfl)) ?_; (with_reducible refine (laws_markBlockS.calls kj15 (fun k_ => some k_ = (.slice Ao26 t113.length co26 : Value).ownBlock) (.slice Ao26 t113.length co26) t113 1 t132 t133 w _ ?side1 ?side2 A44.out).mono ?_); (case side1 => repeat (first | (with_reducible first | exact HB.out | apply below_alloc | apply pw_below_drewN | apply below_drew1) | exact HB.out)); (case side2 => exact Kd.R_tight rfl HO_8.out); rintro e w53 ⟨rfl, hy0, hb, hkp⟩; refine ⟨_, rfl, ?_⟩; have n0_ := Aside0.mk (Kd.R_mono (ok' := fun k_ => some k_ ≠ (.slice Ao26 t113.length co26 : Value).ownBlock ∧ some k_ ≠ (.slice Ao27 t116.length co27 : Value).ownBlock ∧ some k_ ≠ (v121 : Value).ownBlock ∧ some k_ ≠ (.slice Ao48 t124.length co48 : Value).ownBlock ∧ some k_ ≠ (.slice Ao51 t128.length co51 : Value).ownBlock) (Kd.R_keptB (HO_6.out) hkp (fun k_ hk_ hs_ => (hk_.1.1.1) hs_)) (fun k_ hk_ => ⟨hk_.1.1.1.1, hk_.1.1.1.2.1, hk_.1.1.1.2.2, hk_.1.1.2, hk_.1.2⟩)); have n1_ := Aside0.mk (Kd.R_reok rfl hy0 (fun k_ e_ => HO_8.out.1 k_ e_)); have n2_ := Aside0.mk (Kd.R_mono (ok' := fun k_ => some k_ ≠ (v111 : Value).ownBlock ∧ some k_ ≠ (.slice Ao26 t113.length co26 : Value).ownBlock ∧ some k_ ≠ (v121 : Value).ownBlock ∧ some k_ ≠ (.slice Ao48 t124.length co48 : Value).ownBlock ∧ some k_ ≠ (.slice Ao51 t128.length co51 : Value).ownBlock) (Kd.R_keptB (HO_9.out) hkp (fun k_ hk_ hs_ => (hk_.1.1.2.1) hs_)) (fun k_ hk_ => ⟨hk_.1.1.1.1, hk_.1.1.1.2.1, hk_.1.1.1.2.2, hk_.1.1.2, hk_.1.2⟩)); have n3_ := Aside0.mk (Kd.R_mono (ok' := fun k_ => some k_ ≠ (v111 : Value).ownBlock ∧ some k_ ≠ (.slice Ao26 t113.length co26 : Value).ownBlock ∧ some k_ ≠ (.slice Ao27 t116.length co27 : Value).ownBlock ∧ some k_ ≠ (.slice Ao48 t124.length co48 : Value).ownBlock ∧ some k_ ≠ (.slice Ao51 t128.length co51 : Value).ownBlock) (Kd.R_keptB (HO_10.out) hkp (fun k_ hk_ hs_ => (hk_.1.1.2.1) hs_)) (fun k_ hk_ => ⟨hk_.1.1.1.1, hk_.1.1.1.2.1, hk_.1.1.1.2.2, hk_.1.1.2, hk_.1.2⟩)); have n4_ := Aside0.mk (Kd.R_mono (ok' := fun k_ => some k_ ≠ (v111 : Value).ownBlock ∧ some k_ ≠ (.slice Ao26 t113.length co26 : Value).ownBlock ∧ some k_ ≠ (.slice Ao27 t116.length co27 : Value).ownBlock ∧ some k_ ≠ (v121 : Value).ownBlock ∧ some k_ ≠ (.slice Ao51 t128.length co51 : Value).ownBlock) (Kd.R_keptB (HO126.out) hkp (fun k_ hk_ hs_ => (hk_.1.1.1.2) hs_)) (fun k_ hk_ => ⟨hk_.1.1.1.1.1.2, hk_.1.1.1.1.2, hk_.1.1.1.2, hk_.1.1.2, hk_.1.2⟩)); have n5_ := Aside0.mk (Kd.R_mono (ok' := fun k_ => some k_ ≠ (v111 : Value).ownBlock ∧ some k_ ≠ (.slice Ao26 t113.length co26 : Value).ownBlock ∧ some k_ ≠ (.slice Ao27 t116.length co27 : Value).ownBlock ∧ some k_ ≠ (v121 : Value).ownBlock ∧ some k_ ≠ (.slice Ao48 t124.length co48 : Value).ownBlock) (Kd.R_keptB (HO130.out) hkp (fun k_ hk_ hs_ => (hk_.1.1.1.2) hs_)) (fun k_ hk_ => ⟨hk_.1.1.1.1.1.2, hk_.1.1.1.1.2, hk_.1.1.1.2, hk_.1.1.2, hk_.1.2⟩)); have n6_ := Aside0.mk (hb); clear HO_6; clear HO_8; clear HO_9; clear HO_10; clear HO126; clear HO130; clear HB; have HO_6 := n0_; have HO_8 := n1_; have HO_9 := n2_; have HO_10 := n3_; have HO126 := n4_; have HO130 := n5_; have HB := n6_; clear n0_ n1_ n2_ n3_ n4_ n5_ n6_; (try clear hb); (try clear hkp); (try clear hy0)) | ((with_reducible refine gate_callee (f := 36) rfl ?_); refine goesL_ (some 69) rfl rfl Try.func36 (by kernel_rfl) rfl #[.slice Ao27 t116.length co27, .int .i64 t132] rfl (by (try simp only [List.map_toArray, List.map_cons, List.map_nil]); first | done | rfl | (simp only [List.length_drop, List.length_take]; rfl)) ?_; (with_reducible refine (laws_markBlockS.calls kj15 (fun k_ => some k_ = (.slice Ao27 t116.length co27 : Value).ownBlock) (.slice Ao27 t116.length co27) t116 t132 t134 t135 w _ ?side1 ?side2 A45.out).mono ?_); (case side1 => repeat (first | (with_reducible first | exact HB.out | apply below_alloc | apply pw_below_drewN | apply below_drew1) | exact HB.out)); (case side2 => exact Kd.R_tight rfl HO_9.out); rintro e w54 ⟨rfl, hy0, hb, hkp⟩; refine ⟨_, rfl, ?_⟩; have n0_ := Aside0.mk (Kd.R_mono (ok' := fun k_ => some k_ ≠ (.slice Ao26 t113.length co26 : Value).ownBlock ∧ some k_ ≠ (.slice Ao27 t116.length co27 : Value).ownBlock ∧ some k_ ≠ (v121 : Value).ownBlock ∧ some k_ ≠ (.slice Ao48 t124.length co48 : Value).ownBlock ∧ some k_ ≠ (.slice Ao51 t128.length co51 : Value).ownBlock) (Kd.R_keptB (HO_6.out) hkp (fun k_ hk_ hs_ => (hk_.2.1) hs_)) (fun k_ hk_ => ⟨hk_.1.1, hk_.1.2.1, hk_.1.2.2.1, hk_.1.2.2.2.1, hk_.1.2.2.2.2⟩)); have n1_ := Aside0.mk (Kd.R_mono (ok' := fun k_ => some k_ ≠ (v111 : Value).ownBlock ∧ some k_ ≠ (.slice Ao27 t116.length co27 : Value).ownBlock ∧ some k_ ≠ (v121 : Value).ownBlock ∧ some k_ ≠ (.slice Ao48 t124.length co48 : Value).ownBlock ∧ some k_ ≠ (.slice Ao51 t128.length co51 : Value).ownBlock) (Kd.R_keptB (HO_8.out) hkp (fun k_ hk_ hs_ => (hk_.1.1.2.1) hs_)) (fun k_ hk_ => ⟨hk_.1.1.1.1, hk_.1.1.1.2.1, hk_.1.1.1.2.2, hk_.1.1.2, hk_.1.2⟩)); have n2_ := Aside0.mk (Kd.R_reok rfl hy0 (fun k_ e_ => HO_9.out.1 k_ e_)); have n3_ := Aside0.mk (Kd.R_mono (ok' := fun k_ => some k_ ≠ (v111 : Value).ownBlock ∧ some k_ ≠ (.slice Ao26 t113.length co26 : Value).ownBlock ∧ some k_ ≠ (.slice Ao27 t116.length co27 : Value).ownBlock ∧ some k_ ≠ (.slice Ao48 t124.length co48 : Value).ownBlock ∧ some k_ ≠ (.slice Ao51 t128.length co51 : Value).ownBlock) (Kd.R_keptB (HO_10.out) hkp (fun k_ hk_ hs_ => (hk_.2.2.1) hs_)) (fun k_ hk_ => ⟨hk_.1.1, hk_.1.2.1, hk_.1.2.2.1, hk_.1.2.2.2.1, hk_.1.2.2.2.2⟩)); have n4_ := Aside0.mk (Kd.R_mono (ok' := fun k_ => some k_ ≠ (v111 : Value).ownBlock ∧ some k_ ≠ (.slice Ao26 t113.length co26 : Value).ownBlock ∧ some k_ ≠ (.slice Ao27 t116.length co27 : Value).ownBlock ∧ some k_ ≠ (v121 : Value).ownBlock ∧ some k_ ≠ (.slice Ao51 t128.length co51 : Value).ownBlock) (Kd.R_keptB (HO126.out) hkp (fun k_ hk_ hs_ => (hk_.2.2.1) hs_)) (fun k_ hk_ => ⟨hk_.1.1, hk_.1.2.1, hk_.1.2.2.1, hk_.1.2.2.2.1, hk_.1.2.2.2.2⟩)); have n5_ := Aside0.mk (Kd.R_mono (ok' := fun k_ => some k_ ≠ (v111 : Value).ownBlock ∧ some k_ ≠ (.slice Ao26 t113.length co26 : Value).ownBlock ∧ some k_ ≠ (.slice Ao27 t116.length co27 : Value).ownBlock ∧ some k_ ≠ (v121 : Value).ownBlock ∧ some k_ ≠ (.slice Ao48 t124.length co48 : Value).ownBlock) (Kd.R_keptB (HO130.out) hkp (fun k_ hk_ hs_ => (hk_.2.2.1) hs_)) (fun k_ hk_ => ⟨hk_.1.1, hk_.1.2.1, hk_.1.2.2.1, hk_.1.2.2.2.1, hk_.1.2.2.2.2⟩)); have n6_ := Aside0.mk (hb); clear HO_6; clear HO_8; clear HO_9; clear HO_10; clear HO126; clear HO130; clear HB; have HO_6 := n0_; have HO_8 := n1_; have HO_9 := n2_; have HO_10 := n3_; have HO126 := n4_; have HO130 := n5_; have HB := n6_; clear n0_ n1_ n2_ n3_ n4_ n5_ n6_; (try clear hb); (try clear hkp); (try clear hy0)))
                (try simp only [Act.put, List.setIfInBounds_toArray, List.set_cons_zero, List.set_cons_succ])
                go_cut [82] (fun v82 wc => ∃ (kq : Nat) (x82_45 : Bool), v82 = .bool x82_45 ∧ Aside0 (laws_FnExactMergeBlocks.j1 kq l0 l1 t109 t110 t119 x82_45 = some r) ∧ Aside0 (kq ≤ kj15) ∧ Aside0 (Kd.R k69 69 wc w.heap.size (fun k_ => some k_ ≠ (v121 : Value).ownBlock) v111 t109) ∧ Aside0 (Kd.R k69 69 wc w.heap.size (fun k_ => some k_ ≠ (v111 : Value).ownBlock) v121 t119) ∧ Aside0 (Below w.heap.size w wc))
                case first =>
                  have H := HC46.out
                  clear HC46
                  by_cases c55 : t134 < 0
                  · rw [if_pos c55] at H
                    have c55b0 : decide (t134 < 0) = true := decide_eq_true c55
                    clear c55
                    (first | rw [c55b0] | (simp only [i64_w, i32_w]; rw [c55b0]) | skip)
                    have H' := Aside0.mk H
                    clear H
                    go_wp2
                    go_meet
                    case rel => exact ⟨_, (true), (by first | rfl | (simp; done) | (simp [*]; done)), H', ⟨by have := HJ15.out; first | omega | exact Nat.le_refl _⟩, ⟨by (with_reducible repeat (first | apply Kd.R_alloc | apply Kd.R_drewN | apply Kd.R_drew)); exact Kd.R_mono HO_6.out (fun _ hk => hk.2.2.1)⟩, ⟨by (with_reducible repeat (first | apply Kd.R_alloc | apply Kd.R_drewN | apply Kd.R_drew)); exact Kd.R_mono HO_10.out (fun _ hk => hk.1)⟩, ⟨by repeat (first | (with_reducible first | exact HB.out | apply below_alloc | apply pw_below_drewN | apply below_drew1) | exact HB.out)⟩⟩
                  · rw [if_neg c55] at H
                    have c55b0 : decide (t134 < 0) = false := decide_eq_false c55
                    clear c55
                    (first | rw [c55b0] | (simp only [i64_w, i32_w]; rw [c55b0]) | skip)
                    replace H := Option.bind_eq_some_iff.mp H
                    obtain ⟨t136, A560, H⟩ := H
                    replace H : (if t136 = true then (laws_FnExactMergeBlocks.j1 kj15 l0 l1 t109 t110 t119 (t120 != t110)) else (laws_FnExactMergeBlocks.j1 kj15 l0 l1 t109 t110 t119 true)) = some r := H
                    have A56 := Aside0.mk A560
                    clear A560
                    by_cases c57 : t136 = true
                    · subst c57
                      have H1 : (laws_FnExactMergeBlocks.j1 kj15 l0 l1 t109 t110 t119 (t120 != t110)) = some r := by rw [if_pos rfl] at H; exact H
                      clear H
                      have H := H1
                      clear H1
                      have H' := Aside0.mk H
                      clear H
                      obtain ⟨Ao58, co58, eo58⟩ := Kd.R_slice HO_10.out
                      subst eo58
                      obtain ⟨Ao59, co59, eo59⟩ := Kd.R_slice HO_6.out
                      subst eo59
                      go_wp2_with (first | (go_at_call 27; (with_reducible refine (laws_eqBlockS.calls kj15 _ _ t119 _ _ t109 true _ ?side1 ?side2 ?side3 ?side4 A56.out).mono ?_); (case side1 => repeat (first | exact (Kd.R_reads' HO_10.out).2.2 | (with_reducible refine Kd.C_alloc ?_ _) | (with_reducible refine Kd.C_drewN ?_ _) | (with_reducible refine Kd.C_drew ?_))); (case side2 => exact (Kd.R_reads' HO_10.out).2.1); (case side3 => repeat (first | exact (Kd.R_reads' HO_6.out).2.2 | (with_reducible refine Kd.C_alloc ?_ _) | (with_reducible refine Kd.C_drewN ?_ _) | (with_reducible refine Kd.C_drew ?_))); (case side4 => exact (Kd.R_reads' HO_6.out).2.1); rintro e w60 ⟨rfl, hb⟩; have n0_ := Aside0.mk (Kd.R_below (by (with_reducible repeat (first | apply Kd.R_alloc | apply Kd.R_drewN | apply Kd.R_drew)); exact HO_6.out) hb); have n1_ := Aside0.mk (Kd.R_below (by (with_reducible repeat (first | apply Kd.R_alloc | apply Kd.R_drewN | apply Kd.R_drew)); exact HO_8.out) hb); have n2_ := Aside0.mk (Kd.R_below (by (with_reducible repeat (first | apply Kd.R_alloc | apply Kd.R_drewN | apply Kd.R_drew)); exact HO_9.out) hb); have n3_ := Aside0.mk (Kd.R_below (by (with_reducible repeat (first | apply Kd.R_alloc | apply Kd.R_drewN | apply Kd.R_drew)); exact HO_10.out) hb); have n4_ := Aside0.mk (Kd.R_below (by (with_reducible repeat (first | apply Kd.R_alloc | apply Kd.R_drewN | apply Kd.R_drew)); exact HO126.out) hb); have n5_ := Aside0.mk (Kd.R_below (by (with_reducible repeat (first | apply Kd.R_alloc | apply Kd.R_drewN | apply Kd.R_drew)); exact HO130.out) hb); have n6_ := Aside0.mk (below_step (by repeat (first | (with_reducible first | exact HB.out | apply below_alloc | apply pw_below_drewN | apply below_drew1) | exact HB.out)) hb); clear HO_6; clear HO_8; clear HO_9; clear HO_10; clear HO126; clear HO130; clear HB; have HO_6 := n0_; have HO_8 := n1_; have HO_9 := n2_; have HO_10 := n3_; have HO126 := n4_; have HO130 := n5_; have HB := n6_; clear n0_ n1_ n2_ n3_ n4_ n5_ n6_; (try clear hb); (try clear hb2); (try clear hk); (try clear hi)))
                      go_meet
                      case rel => exact ⟨_, ((t120 != t110)), (by first | rfl | (simp; done) | (simp [*]; done)), H', ⟨by have := HJ15.out; first | omega | exact Nat.le_refl _⟩, ⟨by (with_reducible repeat (first | apply Kd.R_alloc | apply Kd.R_drewN | apply Kd.R_drew)); exact Kd.R_mono HO_6.out (fun _ hk => hk.2.2.1)⟩, ⟨by (with_reducible repeat (first | apply Kd.R_alloc | apply Kd.R_drewN | apply Kd.R_drew)); exact Kd.R_mono HO_10.out (fun _ hk => hk.1)⟩, ⟨by repeat (first | (with_reducible first | exact HB.out | apply below_alloc | apply pw_below_drewN | apply below_drew1) | exact HB.out)⟩⟩
                    · replace c57 := Bool.eq_false_iff.mpr c57
                      subst c57
                      have H1 : (laws_FnExactMergeBlocks.j1 kj15 l0 l1 t109 t110 t119 true) = some r := by rw [if_neg (show ¬ (false = true) by decide)] at H; exact H
                      clear H
                      have H := H1
                      clear H1
                      have H' := Aside0.mk H
                      clear H
                      obtain ⟨Ao61, co61, eo61⟩ := Kd.R_slice HO_10.out
                      subst eo61
                      obtain ⟨Ao62, co62, eo62⟩ := Kd.R_slice HO_6.out
                      subst eo62
                      go_wp2_with (first | (go_at_call 27; (with_reducible refine (laws_eqBlockS.calls kj15 _ _ t119 _ _ t109 false _ ?side1 ?side2 ?side3 ?side4 A56.out).mono ?_); (case side1 => repeat (first | exact (Kd.R_reads' HO_10.out).2.2 | (with_reducible refine Kd.C_alloc ?_ _) | (with_reducible refine Kd.C_drewN ?_ _) | (with_reducible refine Kd.C_drew ?_))); (case side2 => exact (Kd.R_reads' HO_10.out).2.1); (case side3 => repeat (first | exact (Kd.R_reads' HO_6.out).2.2 | (with_reducible refine Kd.C_alloc ?_ _) | (with_reducible refine Kd.C_drewN ?_ _) | (with_reducible refine Kd.C_drew ?_))); (case side4 => exact (Kd.R_reads' HO_6.out).2.1); rintro e w63 ⟨rfl, hb⟩; have n0_ := Aside0.mk (Kd.R_below (by (with_reducible repeat (first | apply Kd.R_alloc | apply Kd.R_drewN | apply Kd.R_drew)); exact HO_6.out) hb); have n1_ := Aside0.mk (Kd.R_below (by (with_reducible repeat (first | apply Kd.R_alloc | apply Kd.R_drewN | apply Kd.R_drew)); exact HO_8.out) hb); have n2_ := Aside0.mk (Kd.R_below (by (with_reducible repeat (first | apply Kd.R_alloc | apply Kd.R_drewN | apply Kd.R_drew)); exact HO_9.out) hb); have n3_ := Aside0.mk (Kd.R_below (by (with_reducible repeat (first | apply Kd.R_alloc | apply Kd.R_drewN | apply Kd.R_drew)); exact HO_10.out) hb); have n4_ := Aside0.mk (Kd.R_below (by (with_reducible repeat (first | apply Kd.R_alloc | apply Kd.R_drewN | apply Kd.R_drew)); exact HO126.out) hb); have n5_ := Aside0.mk (Kd.R_below (by (with_reducible repeat (first | apply Kd.R_alloc | apply Kd.R_drewN | apply Kd.R_drew)); exact HO130.out) hb); have n6_ := Aside0.mk (below_step (by repeat (first | (with_reducible first | exact HB.out | apply below_alloc | apply pw_below_drewN | apply below_drew1) | exact HB.out)) hb); clear HO_6; clear HO_8; clear HO_9; clear HO_10; clear HO126; clear HO130; clear HB; have HO_6 := n0_; have HO_8 := n1_; have HO_9 := n2_; have HO_10 := n3_; have HO126 := n4_; have HO130 := n5_; have HB := n6_; clear n0_ n1_ n2_ n3_ n4_ n5_ n6_; (try clear hb); (try clear hb2); (try clear hk); (try clear hi)))
                      go_meet
                      case rel => exact ⟨_, (true), (by first | rfl | (simp; done) | (simp [*]; done)), H', ⟨by have := HJ15.out; first | omega | exact Nat.le_refl _⟩, ⟨by (with_reducible repeat (first | apply Kd.R_alloc | apply Kd.R_drewN | apply Kd.R_drew)); exact Kd.R_mono HO_6.out (fun _ hk => hk.2.2.1)⟩, ⟨by (with_reducible repeat (first | apply Kd.R_alloc | apply Kd.R_drewN | apply Kd.R_drew)); exact Kd.R_mono HO_10.out (fun _ hk => hk.1)⟩, ⟨by repeat (first | (with_reducible first | exact HB.out | apply below_alloc | apply pw_below_drewN | apply below_drew1) | exact HB.out)⟩⟩
                case rest =>
                  clear HC46
                  try clear c1
                  try clear c2
                  try clear p2
                  try clear c3
                  try clear c4
                  try clear c4b0
                  try clear c5
                  try clear c7
                  try clear c7b0
                  try clear c12
                  try clear c23
                  try clear c25
                  try clear c27
                  try clear c30
                  try clear c36
                  try clear c37
                  try clear c40
                  try clear c43
                  try clear c53
                  try clear c54
                  try clear c55
                  try clear c55b0
                  try clear c57
                  try clear p2
                  obtain ⟨kq, x82_45, rfl, HA, HJ45, HO_6, HO_10, HB⟩ := hcut
                  cases kq with
                  | zero => exact absurd HA.out (by simp [laws_FnExactMergeBlocks.j1])
                  | succ kj45 =>
                    have H := HA.out
                    clear HA
                    simp only [laws_FnExactMergeBlocks.j1] at H
                    by_cases c64 : x82_45 = true
                    · subst c64
                      have H1 : (some false) = some r := by rw [if_pos rfl] at H; exact H
                      clear H
                      have H := H1
                      clear H1
                      obtain rfl := Option.some.inj H
                      go_wp2
                      go_ret
                      exact ⟨by first | rfl | (simp [errW_none, errW_some] <;> rfl) | (simp [*, errW_none, errW_some] <;> rfl), by repeat (first | (with_reducible first | exact HB.out | apply below_alloc | apply pw_below_drewN | apply below_drew1) | exact HB.out)⟩
                    · replace c64 := Bool.eq_false_iff.mpr c64
                      subst c64
                      have H1 : ((laws_markBlockS.f kj45 t119 1).bind fun bt137 => ((laws_heldBlockS.f kj45 bt137.2 1).bind fun t139 => (if t139 < 0 then (some false) else (if t139 = bt137.1 then ((laws_toBlockS.f kj45 l0).bind fun t140 => ((laws_toBlockS.f kj45 l1).bind fun t143 => ((impl_MergeBlocks.f kj45 t140 t143).bind fun bt146 => ((laws_eqBlockS.f kj45 bt146.1 t109).bind fun t150 => (if t150 = true then (laws_FnExactMergeBlocks.j2 kj45 bt137.2 bt137.1 (bt146.2 != t110)) else (laws_FnExactMergeBlocks.j2 kj45 bt137.2 bt137.1 true)))))) else (some false))))) = some r := by rw [if_neg (show ¬ (false = true) by decide)] at H; exact H
                      clear H
                      have H := H1
                      clear H1
                      replace H := Option.bind_eq_some_iff.mp H
                      obtain ⟨⟨t137, t138⟩, A650, H⟩ := H
                      replace H : ((laws_heldBlockS.f kj45 t138 1).bind fun t139 => (if t139 < 0 then (some false) else (if t139 = t137 then ((laws_toBlockS.f kj45 l0).bind fun t140 => ((laws_toBlockS.f kj45 l1).bind fun t143 => ((impl_MergeBlocks.f kj45 t140 t143).bind fun bt146 => ((laws_eqBlockS.f kj45 bt146.1 t109).bind fun t150 => (if t150 = true then (laws_FnExactMergeBlocks.j2 kj45 t138 t137 (bt146.2 != t110)) else (laws_FnExactMergeBlocks.j2 kj45 t138 t137 true)))))) else (some false)))) = some r := H
                      have A65 := Aside0.mk A650
                      clear A650
                      replace H := Option.bind_eq_some_iff.mp H
                      obtain ⟨t139, A660, H⟩ := H
                      replace H : (if t139 < 0 then (some false) else (if t139 = t137 then ((laws_toBlockS.f kj45 l0).bind fun t140 => ((laws_toBlockS.f kj45 l1).bind fun t143 => ((impl_MergeBlocks.f kj45 t140 t143).bind fun bt146 => ((laws_eqBlockS.f kj45 bt146.1 t109).bind fun t150 => (if t150 = true then (laws_FnExactMergeBlocks.j2 kj45 t138 t137 (bt146.2 != t110)) else (laws_FnExactMergeBlocks.j2 kj45 t138 t137 true)))))) else (some false))) = some r := H
                      have A66 := Aside0.mk A660
                      clear A660
                      by_cases c67 : t139 < 0
                      · rw [if_pos c67] at H
                        have c67b0 : decide (t139 < 0) = true := decide_eq_true c67
                        clear c67
                        obtain rfl := Option.some.inj H
                        obtain ⟨Ao68, co68, eo68⟩ := Kd.R_slice HO_10.out
                        subst eo68
                        go_wp2_with (first | ((with_reducible refine gate_callee (f := 36) rfl ?_); refine goesL_ (some 85) rfl rfl Try.func36 (by kernel_rfl) rfl #[.slice Ao68 t119.length co68, .int .i64 1] rfl (by (try simp only [List.map_toArray, List.map_cons, List.map_nil]); first | done | rfl | (simp only [List.length_drop, List.length_take]; rfl)) ?_; (with_reducible refine (laws_markBlockS.calls kj45 (fun k_ => some k_ = (.slice Ao68 t119.length co68 : Value).ownBlock) (.slice Ao68 t119.length co68) t119 1 t137 t138 w _ ?side1 ?side2 A65.out).mono ?_); (case side1 => repeat (first | (with_reducible first | exact HB.out | apply below_alloc | apply pw_below_drewN | apply below_drew1) | exact HB.out)); (case side2 => exact Kd.R_tight rfl HO_10.out); rintro e w69 ⟨rfl, hy0, hb, hkp⟩; refine ⟨_, rfl, ?_⟩; have n0_ := Aside0.mk (Kd.R_mono (ok' := fun k_ => some k_ ≠ (.slice Ao68 t119.length co68 : Value).ownBlock) (Kd.R_keptB (HO_6.out) hkp (fun k_ hk_ hs_ => (hk_) hs_)) (fun k_ hk_ => hk_.1)); have n1_ := Aside0.mk (Kd.R_reok rfl hy0 (fun k_ e_ => HO_10.out.1 k_ e_)); have n2_ := Aside0.mk (hb); clear HO_6; clear HO_10; clear HB; have HO_6 := n0_; have HO_10 := n1_; have HB := n2_; clear n0_ n1_ n2_; (try clear hb); (try clear hkp); (try clear hy0)) | ((with_reducible refine gate_callee (f := 39) rfl ?_); refine goesL_ (some 88) rfl rfl Try.func39 (by kernel_rfl) rfl #[.slice Ao68 t138.length co68, .int .i64 1] rfl (by (try simp only [List.map_toArray, List.map_cons, List.map_nil]); first | done | (rw [show t138.length = t119.length from (Kd.R_reads' HO_10.out).1.symm] <;> rfl) | rfl | (simp only [List.length_drop, List.length_take]; rfl)) ?_; (with_reducible refine (laws_heldBlockS.calls kj45 _ _ t138 1 t139 _ ?side1 ?side2 A66.out).mono ?_); (case side1 => repeat (first | exact (Kd.R_reads' HO_10.out).2.2 | (with_reducible refine Kd.C_alloc ?_ _) | (with_reducible refine Kd.C_drewN ?_ _) | (with_reducible refine Kd.C_drew ?_))); (case side2 => rw [show t138.length = t119.length from (Kd.R_reads' HO_10.out).1.symm]; exact (Kd.R_reads' HO_10.out).2.1); rintro e w70 ⟨rfl, hb⟩; refine ⟨_, rfl, ?_⟩; have n0_ := Aside0.mk (Kd.R_below (by (with_reducible repeat (first | apply Kd.R_alloc | apply Kd.R_drewN | apply Kd.R_drew)); exact HO_6.out) hb); have n1_ := Aside0.mk (Kd.R_below (by (with_reducible repeat (first | apply Kd.R_alloc | apply Kd.R_drewN | apply Kd.R_drew)); exact HO_10.out) hb); have n2_ := Aside0.mk (below_step (by repeat (first | (with_reducible first | exact HB.out | apply below_alloc | apply pw_below_drewN | apply below_drew1) | exact HB.out)) hb); clear HO_6; clear HO_10; clear HB; have HO_6 := n0_; have HO_10 := n1_; have HB := n2_; clear n0_ n1_ n2_; (try clear hb); (try clear hb2); (try clear hk); (try clear hi)))
                        go_ret
                        exact ⟨by first | rfl | (simp [errW_none, errW_some] <;> rfl) | (simp [*, errW_none, errW_some] <;> rfl), by repeat (first | (with_reducible first | exact HB.out | apply below_alloc | apply pw_below_drewN | apply below_drew1) | exact HB.out)⟩
                      · rw [if_neg c67] at H
                        have c67b0 : decide (t139 < 0) = false := decide_eq_false c67
                        clear c67
                        by_cases c71 : t139 = t137
                        · rw [if_pos c71] at H
                          have c71b0 : (t139 == t137) = true := beq_iff_eq.mpr c71
                          have c71b1 : (t139 != t137) = false := bne_eq_false_iff_eq.mpr c71
                          clear c71
                          replace H := Option.bind_eq_some_iff.mp H
                          obtain ⟨t140, A720, H⟩ := H
                          replace H : ((laws_toBlockS.f kj45 l1).bind fun t143 => ((impl_MergeBlocks.f kj45 t140 t143).bind fun bt146 => ((laws_eqBlockS.f kj45 bt146.1 t109).bind fun t150 => (if t150 = true then (laws_FnExactMergeBlocks.j2 kj45 t138 t137 (bt146.2 != t110)) else (laws_FnExactMergeBlocks.j2 kj45 t138 t137 true))))) = some r := H
                          have A72 := Aside0.mk A720
                          clear A720
                          replace H := Option.bind_eq_some_iff.mp H
                          obtain ⟨t143, A730, H⟩ := H
                          replace H : ((impl_MergeBlocks.f kj45 t140 t143).bind fun bt146 => ((laws_eqBlockS.f kj45 bt146.1 t109).bind fun t150 => (if t150 = true then (laws_FnExactMergeBlocks.j2 kj45 t138 t137 (bt146.2 != t110)) else (laws_FnExactMergeBlocks.j2 kj45 t138 t137 true)))) = some r := H
                          have A73 := Aside0.mk A730
                          clear A730
                          replace H := Option.bind_eq_some_iff.mp H
                          obtain ⟨⟨t146, t147⟩, A740, H⟩ := H
                          replace H : ((laws_eqBlockS.f kj45 t146 t109).bind fun t150 => (if t150 = true then (laws_FnExactMergeBlocks.j2 kj45 t138 t137 (t147 != t110)) else (laws_FnExactMergeBlocks.j2 kj45 t138 t137 true))) = some r := H
                          have A74 := Aside0.mk A740
                          clear A740
                          have HC75 := Aside0.mk H
                          clear H
                          obtain ⟨Ao76, co76, eo76⟩ := Kd.R_slice HO_10.out
                          subst eo76
                          go_upto_region 32 with (first | ((with_reducible refine gate_callee (f := 36) rfl ?_); refine goesL_ (some 85) rfl rfl Try.func36 (by kernel_rfl) rfl #[.slice Ao76 t119.length co76, .int .i64 1] rfl (by (try simp only [List.map_toArray, List.map_cons, List.map_nil]); first | done | rfl | (simp only [List.length_drop, List.length_take]; rfl)) ?_; (with_reducible refine (laws_markBlockS.calls kj45 (fun k_ => some k_ = (.slice Ao76 t119.length co76 : Value).ownBlock) (.slice Ao76 t119.length co76) t119 1 t137 t138 w _ ?side1 ?side2 A65.out).mono ?_); (case side1 => repeat (first | (with_reducible first | exact HB.out | apply below_alloc | apply pw_below_drewN | apply below_drew1) | exact HB.out)); (case side2 => exact Kd.R_tight rfl HO_10.out); rintro e w77 ⟨rfl, hy0, hb, hkp⟩; refine ⟨_, rfl, ?_⟩; have n0_ := Aside0.mk (Kd.R_mono (ok' := fun k_ => some k_ ≠ (.slice Ao76 t119.length co76 : Value).ownBlock) (Kd.R_keptB (HO_6.out) hkp (fun k_ hk_ hs_ => (hk_) hs_)) (fun k_ hk_ => hk_.1)); have n1_ := Aside0.mk (Kd.R_reok rfl hy0 (fun k_ e_ => HO_10.out.1 k_ e_)); have n2_ := Aside0.mk (hb); clear HO_6; clear HO_10; clear HB; have HO_6 := n0_; have HO_10 := n1_; have HB := n2_; clear n0_ n1_ n2_; (try clear hb); (try clear hkp); (try clear hy0)) | ((with_reducible refine gate_callee (f := 39) rfl ?_); refine goesL_ (some 88) rfl rfl Try.func39 (by kernel_rfl) rfl #[.slice Ao76 t138.length co76, .int .i64 1] rfl (by (try simp only [List.map_toArray, List.map_cons, List.map_nil]); first | done | (rw [show t138.length = t119.length from (Kd.R_reads' HO_10.out).1.symm] <;> rfl) | rfl | (simp only [List.length_drop, List.length_take]; rfl)) ?_; (with_reducible refine (laws_heldBlockS.calls kj45 _ _ t138 1 t139 _ ?side1 ?side2 A66.out).mono ?_); (case side1 => repeat (first | exact (Kd.R_reads' HO_10.out).2.2 | (with_reducible refine Kd.C_alloc ?_ _) | (with_reducible refine Kd.C_drewN ?_ _) | (with_reducible refine Kd.C_drew ?_))); (case side2 => rw [show t138.length = t119.length from (Kd.R_reads' HO_10.out).1.symm]; exact (Kd.R_reads' HO_10.out).2.1); rintro e w78 ⟨rfl, hb⟩; refine ⟨_, rfl, ?_⟩; have n0_ := Aside0.mk (Kd.R_below (by (with_reducible repeat (first | apply Kd.R_alloc | apply Kd.R_drewN | apply Kd.R_drew)); exact HO_6.out) hb); have n1_ := Aside0.mk (Kd.R_below (by (with_reducible repeat (first | apply Kd.R_alloc | apply Kd.R_drewN | apply Kd.R_drew)); exact HO_10.out) hb); have n2_ := Aside0.mk (below_step (by repeat (first | (with_reducible first | exact HB.out | apply below_alloc | apply pw_below_drewN | apply below_drew1) | exact HB.out)) hb); clear HO_6; clear HO_10; clear HB; have HO_6 := n0_; have HO_10 := n1_; have HB := n2_; clear n0_ n1_ n2_; (try clear hb); (try clear hb2); (try clear hk); (try clear hi)) | ((with_reducible refine gate_callee (f := 25) rfl ?_); refine goesL_ (some 96) rfl rfl Try.func25 (by kernel_rfl) rfl #[.slice A0 l0.length c0] rfl (by (try simp only [List.map_toArray, List.map_cons, List.map_nil]); first | done | rfl | (simp only [List.length_drop, List.length_take]; rfl)) ?_; (with_reducible refine (laws_toBlockS.calls kj45 _ _ l0 t140 _ ?side1 ?side2 A72.out).mono ?_); (case side1 => repeat (first | exact (Kd.C_below HR0.out HB.out) | (with_reducible refine Kd.C_alloc ?_ _) | (with_reducible refine Kd.C_drewN ?_ _) | (with_reducible refine Kd.C_drew ?_))); (case side2 => exact HC0.out); rintro e w79 ⟨v141, rfl, ho0, hb⟩; refine ⟨_, rfl, ?_⟩; have n0_ := Aside0.mk (Kd.R_elder' (by (with_reducible repeat (first | apply Kd.R_alloc | apply Kd.R_drewN | apply Kd.R_drew)); exact HO_6.out) (Kd.R_base ho0) hb); have n1_ := Aside0.mk (Kd.R_elder' (by (with_reducible repeat (first | apply Kd.R_alloc | apply Kd.R_drewN | apply Kd.R_drew)); exact HO_10.out) (Kd.R_base ho0) hb); have n2_ := Aside0.mk (Kd.R_lower (Kd.R_new' (Kd.R_new' ho0 (Kd.R_lt (by (with_reducible repeat (first | apply Kd.R_alloc | apply Kd.R_drewN | apply Kd.R_drew)); exact HO_6.out))) (Kd.R_lt (by (with_reducible repeat (first | apply Kd.R_alloc | apply Kd.R_drewN | apply Kd.R_drew)); exact HO_10.out))) (below_size (by repeat (first | (with_reducible first | exact HB.out | apply below_alloc | apply pw_below_drewN | apply below_drew1) | exact HB.out)))); have n3_ := Aside0.mk (below_step (by repeat (first | (with_reducible first | exact HB.out | apply below_alloc | apply pw_below_drewN | apply below_drew1) | exact HB.out)) hb); clear HO_6; clear HO_10; clear HB; have HO_6 := n0_; have HO_10 := n1_; have HO142 := n2_; have HB := n3_; clear n0_ n1_ n2_ n3_; (try clear hb); (try clear hb2); (try clear hk); (try clear hi); (try clear ho0)) | ((with_reducible refine gate_callee (f := 25) rfl ?_); refine goesL_ (some 98) rfl rfl Try.func25 (by kernel_rfl) rfl #[.slice A1 l1.length c1] rfl (by (try simp only [List.map_toArray, List.map_cons, List.map_nil]); first | done | rfl | (simp only [List.length_drop, List.length_take]; rfl)) ?_; (with_reducible refine (laws_toBlockS.calls kj45 _ _ l1 t143 _ ?side1 ?side2 A73.out).mono ?_); (case side1 => repeat (first | exact (Kd.C_below HR1.out HB.out) | (with_reducible refine Kd.C_alloc ?_ _) | (with_reducible refine Kd.C_drewN ?_ _) | (with_reducible refine Kd.C_drew ?_))); (case side2 => exact HC1.out); rintro e w80 ⟨v144, rfl, ho0, hb⟩; refine ⟨_, rfl, ?_⟩; have n0_ := Aside0.mk (Kd.R_elder' (by (with_reducible repeat (first | apply Kd.R_alloc | apply Kd.R_drewN | apply Kd.R_drew)); exact HO_6.out) (Kd.R_base ho0) hb); have n1_ := Aside0.mk (Kd.R_elder' (by (with_reducible repeat (first | apply Kd.R_alloc | apply Kd.R_drewN | apply Kd.R_drew)); exact HO_10.out) (Kd.R_base ho0) hb); have n2_ := Aside0.mk (Kd.R_elder' (by (with_reducible repeat (first | apply Kd.R_alloc | apply Kd.R_drewN | apply Kd.R_drew)); exact HO142.out) (Kd.R_base ho0) hb); have n3_ := Aside0.mk (Kd.R_lower (Kd.R_new' (Kd.R_new' (Kd.R_new' ho0 (Kd.R_lt (by (with_reducible repeat (first | apply Kd.R_alloc | apply Kd.R_drewN | apply Kd.R_drew)); exact HO_6.out))) (Kd.R_lt (by (with_reducible repeat (first | apply Kd.R_alloc | apply Kd.R_drewN | apply Kd.R_drew)); exact HO_10.out))) (Kd.R_lt (by (with_reducible repeat (first | apply Kd.R_alloc | apply Kd.R_drewN | apply Kd.R_drew)); exact HO142.out))) (below_size (by repeat (first | (with_reducible first | exact HB.out | apply below_alloc | apply pw_below_drewN | apply below_drew1) | exact HB.out)))); have n4_ := Aside0.mk (below_step (by repeat (first | (with_reducible first | exact HB.out | apply below_alloc | apply pw_below_drewN | apply below_drew1) | exact HB.out)) hb); clear HO_6; clear HO_10; clear HO142; clear HB; have HO_6 := n0_; have HO_10 := n1_; have HO142 := n2_; have HO145 := n3_; have HB := n4_; clear n0_ n1_ n2_ n3_ n4_; (try clear hb); (try clear hb2); (try clear hk); (try clear hi); (try clear ho0); obtain ⟨Ao81, co81, eo81⟩ := Kd.R_slice HO142.out; subst eo81; obtain ⟨Ao82, co82, eo82⟩ := Kd.R_slice HO145.out; subst eo82) | ((with_reducible refine gate_callee (f := 54) rfl ?_); refine goesL_ (some 99) rfl rfl Try.func54 (by kernel_rfl) rfl #[.slice Ao81 t140.length co81, .slice Ao82 t143.length co82] rfl (by (try simp only [List.map_toArray, List.map_cons, List.map_nil]); first | done | rfl | (simp only [List.length_drop, List.length_take]; rfl)) ?_; (with_reducible refine (impl_MergeBlocks.calls kj45 _ _ t140 _ _ t143 t146 t147 _ ?side1 ?side2 ?side3 ?side4 A74.out ?side5).mono ?_); (case side1 => repeat (first | exact (Kd.R_reads' HO142.out).2.2 | (with_reducible refine Kd.C_alloc ?_ _) | (with_reducible refine Kd.C_drewN ?_ _) | (with_reducible refine Kd.C_drew ?_))); (case side2 => exact (Kd.R_reads' HO142.out).2.1); (case side3 => repeat (first | exact (Kd.R_reads' HO145.out).2.2 | (with_reducible refine Kd.C_alloc ?_ _) | (with_reducible refine Kd.C_drewN ?_ _) | (with_reducible refine Kd.C_drew ?_))); (case side4 => exact (Kd.R_reads' HO145.out).2.1); (case side5 => exact HasV.below HV.out (by repeat (first | (with_reducible first | exact HB.out | apply below_alloc | apply pw_below_drewN | apply below_drew1) | exact HB.out))); rintro e w83 ⟨v148, rfl, ho0, hb⟩; refine ⟨_, rfl, ?_⟩; have n0_ := Aside0.mk (Kd.R_elder' (by (with_reducible repeat (first | apply Kd.R_alloc | apply Kd.R_drewN | apply Kd.R_drew)); exact HO_6.out) (Kd.R_base ho0) hb); have n1_ := Aside0.mk (Kd.R_elder' (by (with_reducible repeat (first | apply Kd.R_alloc | apply Kd.R_drewN | apply Kd.R_drew)); exact HO_10.out) (Kd.R_base ho0) hb); have n2_ := Aside0.mk (Kd.R_elder' (by (with_reducible repeat (first | apply Kd.R_alloc | apply Kd.R_drewN | apply Kd.R_drew)); exact HO142.out) (Kd.R_base ho0) hb); have n3_ := Aside0.mk (Kd.R_elder' (by (with_reducible repeat (first | apply Kd.R_alloc | apply Kd.R_drewN | apply Kd.R_drew)); exact HO145.out) (Kd.R_base ho0) hb); have n4_ := Aside0.mk (Kd.R_lower (Kd.R_new' (Kd.R_new' (Kd.R_new' (Kd.R_new' ho0 (Kd.R_lt (by (with_reducible repeat (first | apply Kd.R_alloc | apply Kd.R_drewN | apply Kd.R_drew)); exact HO_6.out))) (Kd.R_lt (by (with_reducible repeat (first | apply Kd.R_alloc | apply Kd.R_drewN | apply Kd.R_drew)); exact HO_10.out))) (Kd.R_lt (by (with_reducible repeat (first | apply Kd.R_alloc | apply Kd.R_drewN | apply Kd.R_drew)); exact HO142.out))) (Kd.R_lt (by (with_reducible repeat (first | apply Kd.R_alloc | apply Kd.R_drewN | apply Kd.R_drew)); exact HO145.out))) (below_size (by repeat (first | (with_reducible first | exact HB.out | apply below_alloc | apply pw_below_drewN | apply below_drew1) | exact HB.out)))); have n5_ := Aside0.mk (below_step (by repeat (first | (with_reducible first | exact HB.out | apply below_alloc | apply pw_below_drewN | apply below_drew1) | exact HB.out)) hb); clear HO_6; clear HO_10; clear HO142; clear HO145; clear HB; have HO_6 := n0_; have HO_10 := n1_; have HO142 := n2_; have HO145 := n3_; have HO149 := n4_; have HB := n5_; clear n0_ n1_ n2_ n3_ n4_ n5_; (try clear hb); (try clear hb2); (try clear hk); (try clear hi); (try clear ho0)))
                          (try simp only [Act.put, List.setIfInBounds_toArray, List.set_cons_zero, List.set_cons_succ])
                          go_cut [110] (fun v110 wc => ∃ (kq : Nat) (x110_74 : Bool), v110 = .bool x110_74 ∧ Aside0 (laws_FnExactMergeBlocks.j2 kq t138 t137 x110_74 = some r) ∧ Aside0 (kq ≤ kj45) ∧ Aside0 (Kd.R k69 69 wc w.heap.size (fun _ => True) (.slice Ao76 t119.length co76) t138) ∧ Aside0 (Below w.heap.size w wc))
                          case first =>
                            have H := HC75.out
                            clear HC75
                            replace H := Option.bind_eq_some_iff.mp H
                            obtain ⟨t150, A840, H⟩ := H
                            replace H : (if t150 = true then (laws_FnExactMergeBlocks.j2 kj45 t138 t137 (t147 != t110)) else (laws_FnExactMergeBlocks.j2 kj45 t138 t137 true)) = some r := H
                            have A84 := Aside0.mk A840
                            clear A840
                            by_cases c85 : t150 = true
                            · subst c85
                              have H1 : (laws_FnExactMergeBlocks.j2 kj45 t138 t137 (t147 != t110)) = some r := by rw [if_pos rfl] at H; exact H
                              clear H
                              have H := H1
                              clear H1
                              have H' := Aside0.mk H
                              clear H
                              obtain ⟨Ao86, co86, eo86⟩ := Kd.R_slice HO149.out
                              subst eo86
                              obtain ⟨Ao87, co87, eo87⟩ := Kd.R_slice HO_6.out
                              subst eo87
                              go_wp2_with (first | ((with_reducible refine gate_callee (f := 27) rfl ?_); refine goesL_ (some 104) rfl rfl Try.func27 (by kernel_rfl) rfl #[.slice Ao86 t146.length co86, .slice Ao87 t109.length co87] rfl (by (try simp only [List.map_toArray, List.map_cons, List.map_nil]); first | done | rfl | (simp only [List.length_drop, List.length_take]; rfl)) ?_; (with_reducible refine (laws_eqBlockS.calls kj45 _ _ t146 _ _ t109 true _ ?side1 ?side2 ?side3 ?side4 A84.out).mono ?_); (case side1 => repeat (first | exact (Kd.R_reads' HO149.out).2.2 | (with_reducible refine Kd.C_alloc ?_ _) | (with_reducible refine Kd.C_drewN ?_ _) | (with_reducible refine Kd.C_drew ?_))); (case side2 => exact (Kd.R_reads' HO149.out).2.1); (case side3 => repeat (first | exact (Kd.R_reads' HO_6.out).2.2 | (with_reducible refine Kd.C_alloc ?_ _) | (with_reducible refine Kd.C_drewN ?_ _) | (with_reducible refine Kd.C_drew ?_))); (case side4 => exact (Kd.R_reads' HO_6.out).2.1); rintro e w88 ⟨rfl, hb⟩; refine ⟨_, rfl, ?_⟩; have n0_ := Aside0.mk (Kd.R_below (by (with_reducible repeat (first | apply Kd.R_alloc | apply Kd.R_drewN | apply Kd.R_drew)); exact HO_6.out) hb); have n1_ := Aside0.mk (Kd.R_below (by (with_reducible repeat (first | apply Kd.R_alloc | apply Kd.R_drewN | apply Kd.R_drew)); exact HO_10.out) hb); have n2_ := Aside0.mk (Kd.R_below (by (with_reducible repeat (first | apply Kd.R_alloc | apply Kd.R_drewN | apply Kd.R_drew)); exact HO142.out) hb); have n3_ := Aside0.mk (Kd.R_below (by (with_reducible repeat (first | apply Kd.R_alloc | apply Kd.R_drewN | apply Kd.R_drew)); exact HO145.out) hb); have n4_ := Aside0.mk (Kd.R_below (by (with_reducible repeat (first | apply Kd.R_alloc | apply Kd.R_drewN | apply Kd.R_drew)); exact HO149.out) hb); have n5_ := Aside0.mk (below_step (by repeat (first | (with_reducible first | exact HB.out | apply below_alloc | apply pw_below_drewN | apply below_drew1) | exact HB.out)) hb); clear HO_6; clear HO_10; clear HO142; clear HO145; clear HO149; clear HB; have HO_6 := n0_; have HO_10 := n1_; have HO142 := n2_; have HO145 := n3_; have HO149 := n4_; have HB := n5_; clear n0_ n1_ n2_ n3_ n4_ n5_; (try clear hb); (try clear hb2); (try clear hk); (try clear hi)))
                              go_meet
                              case rel => exact ⟨_, ((t147 != t110)), (by first | rfl | (simp; done) | (simp [*]; done)), H', ⟨by have := HJ15.out; have := HJ45.out; first | omega | exact Nat.le_refl _⟩, ⟨by (with_reducible repeat (first | apply Kd.R_alloc | apply Kd.R_drewN | apply Kd.R_drew)); exact Kd.R_mono HO_10.out (fun _ hk => trivial)⟩, ⟨by repeat (first | (with_reducible first | exact HB.out | apply below_alloc | apply pw_below_drewN | apply below_drew1) | exact HB.out)⟩⟩
                            · replace c85 := Bool.eq_false_iff.mpr c85
                              subst c85
                              have H1 : (laws_FnExactMergeBlocks.j2 kj45 t138 t137 true) = some r := by rw [if_neg (show ¬ (false = true) by decide)] at H; exact H
                              clear H
                              have H := H1
                              clear H1
                              have H' := Aside0.mk H
                              clear H
                              obtain ⟨Ao89, co89, eo89⟩ := Kd.R_slice HO149.out
                              subst eo89
                              obtain ⟨Ao90, co90, eo90⟩ := Kd.R_slice HO_6.out
                              subst eo90
                              go_wp2_with (first | ((with_reducible refine gate_callee (f := 27) rfl ?_); refine goesL_ (some 104) rfl rfl Try.func27 (by kernel_rfl) rfl #[.slice Ao89 t146.length co89, .slice Ao90 t109.length co90] rfl (by (try simp only [List.map_toArray, List.map_cons, List.map_nil]); first | done | rfl | (simp only [List.length_drop, List.length_take]; rfl)) ?_; (with_reducible refine (laws_eqBlockS.calls kj45 _ _ t146 _ _ t109 false _ ?side1 ?side2 ?side3 ?side4 A84.out).mono ?_); (case side1 => repeat (first | exact (Kd.R_reads' HO149.out).2.2 | (with_reducible refine Kd.C_alloc ?_ _) | (with_reducible refine Kd.C_drewN ?_ _) | (with_reducible refine Kd.C_drew ?_))); (case side2 => exact (Kd.R_reads' HO149.out).2.1); (case side3 => repeat (first | exact (Kd.R_reads' HO_6.out).2.2 | (with_reducible refine Kd.C_alloc ?_ _) | (with_reducible refine Kd.C_drewN ?_ _) | (with_reducible refine Kd.C_drew ?_))); (case side4 => exact (Kd.R_reads' HO_6.out).2.1); rintro e w91 ⟨rfl, hb⟩; refine ⟨_, rfl, ?_⟩; have n0_ := Aside0.mk (Kd.R_below (by (with_reducible repeat (first | apply Kd.R_alloc | apply Kd.R_drewN | apply Kd.R_drew)); exact HO_6.out) hb); have n1_ := Aside0.mk (Kd.R_below (by (with_reducible repeat (first | apply Kd.R_alloc | apply Kd.R_drewN | apply Kd.R_drew)); exact HO_10.out) hb); have n2_ := Aside0.mk (Kd.R_below (by (with_reducible repeat (first | apply Kd.R_alloc | apply Kd.R_drewN | apply Kd.R_drew)); exact HO142.out) hb); have n3_ := Aside0.mk (Kd.R_below (by (with_reducible repeat (first | apply Kd.R_alloc | apply Kd.R_drewN | apply Kd.R_drew)); exact HO145.out) hb); have n4_ := Aside0.mk (Kd.R_below (by (with_reducible repeat (first | apply Kd.R_alloc | apply Kd.R_drewN | apply Kd.R_drew)); exact HO149.out) hb); have n5_ := Aside0.mk (below_step (by repeat (first | (with_reducible first | exact HB.out | apply below_alloc | apply pw_below_drewN | apply below_drew1) | exact HB.out)) hb); clear HO_6; clear HO_10; clear HO142; clear HO145; clear HO149; clear HB; have HO_6 := n0_; have HO_10 := n1_; have HO142 := n2_; have HO145 := n3_; have HO149 := n4_; have HB := n5_; clear n0_ n1_ n2_ n3_ n4_ n5_; (try clear hb); (try clear hb2); (try clear hk); (try clear hi)))
                              go_meet
                              case rel => exact ⟨_, (true), (by first | rfl | (simp; done) | (simp [*]; done)), H', ⟨by have := HJ15.out; have := HJ45.out; first | omega | exact Nat.le_refl _⟩, ⟨by (with_reducible repeat (first | apply Kd.R_alloc | apply Kd.R_drewN | apply Kd.R_drew)); exact Kd.R_mono HO_10.out (fun _ hk => trivial)⟩, ⟨by repeat (first | (with_reducible first | exact HB.out | apply below_alloc | apply pw_below_drewN | apply below_drew1) | exact HB.out)⟩⟩
                          case rest =>
                            clear HC75
                            try clear c1
                            try clear c2
                            try clear p2
                            try clear c3
                            try clear c4
                            try clear c4b0
                            try clear c5
                            try clear c6
                            try clear c7
                            try clear c7b0
                            try clear c8
                            try clear c12
                            try clear c23
                            try clear c25
                            try clear c27
                            try clear c30
                            try clear c36
                            try clear c37
                            try clear c39
                            try clear c40
                            try clear c43
                            try clear c53
                            try clear c54
                            try clear c55
                            try clear c55b0
                            try clear c57
                            try clear c64
                            try clear c67
                            try clear c67b0
                            try clear c71
                            try clear c71b0
                            try clear c71b1
                            try clear c85
                            try clear p2
                            obtain ⟨kq, x110_74, rfl, HA, HJ74, HO_10, HB⟩ := hcut
                            have hl10_74 := (Kd.R_reads' HO_10.out).1
                            rw [hl10_74] at HO_10
                            (try simp only [hl10_74])
                            cases kq with
                            | zero => exact absurd HA.out (by simp [laws_FnExactMergeBlocks.j2])
                            | succ kj74 =>
                              have H := HA.out
                              clear HA
                              simp only [laws_FnExactMergeBlocks.j2] at H
                              by_cases c92 : x110_74 = true
                              · subst c92
                                have H1 : (some false) = some r := by rw [if_pos rfl] at H; exact H
                                clear H
                                have H := H1
                                clear H1
                                obtain rfl := Option.some.inj H
                                go_wp2
                                go_ret
                                exact ⟨by first | rfl | (simp [errW_none, errW_some] <;> rfl) | (simp [*, errW_none, errW_some] <;> rfl), by repeat (first | (with_reducible first | exact HB.out | apply below_alloc | apply pw_below_drewN | apply below_drew1) | exact HB.out)⟩
                              · replace c92 := Bool.eq_false_iff.mpr c92
                                subst c92
                                have H1 : ((laws_heldBlockS.f kj74 t138 1).bind fun t151 => (if t151 < 0 then (some false) else (if t151 = t137 then (some true) else (some false)))) = some r := by rw [if_neg (show ¬ (false = true) by decide)] at H; exact H
                                clear H
                                have H := H1
                                clear H1
                                replace H := Option.bind_eq_some_iff.mp H
                                obtain ⟨t151, A930, H⟩ := H
                                replace H : (if t151 < 0 then (some false) else (if t151 = t137 then (some true) else (some false))) = some r := H
                                have A93 := Aside0.mk A930
                                clear A930
                                by_cases c94 : t151 < 0
                                · rw [if_pos c94] at H
                                  have c94b0 : decide (t151 < 0) = true := decide_eq_true c94
                                  clear c94
                                  obtain rfl := Option.some.inj H
                                  go_wp2_with (first | ((with_reducible refine gate_callee (f := 39) rfl ?_); refine goesL_ (some 113) rfl rfl Try.func39 (by kernel_rfl) rfl #[.slice Ao76 t138.length co76, .int .i64 1] rfl (by (try simp only [List.map_toArray, List.map_cons, List.map_nil]); first | done | rfl | (simp only [List.length_drop, List.length_take]; rfl)) ?_; (with_reducible refine (laws_heldBlockS.calls kj74 _ _ t138 1 t151 _ ?side1 ?side2 A93.out).mono ?_); (case side1 => repeat (first | exact (Kd.R_reads' HO_10.out).2.2 | (with_reducible refine Kd.C_alloc ?_ _) | (with_reducible refine Kd.C_drewN ?_ _) | (with_reducible refine Kd.C_drew ?_))); (case side2 => exact (Kd.R_reads' HO_10.out).2.1); rintro e w95 ⟨rfl, hb⟩; refine ⟨_, rfl, ?_⟩; have n0_ := Aside0.mk (Kd.R_below (by (with_reducible repeat (first | apply Kd.R_alloc | apply Kd.R_drewN | apply Kd.R_drew)); exact HO_10.out) hb); have n1_ := Aside0.mk (below_step (by repeat (first | (with_reducible first | exact HB.out | apply below_alloc | apply pw_below_drewN | apply below_drew1) | exact HB.out)) hb); clear HO_10; clear HB; have HO_10 := n0_; have HB := n1_; clear n0_ n1_; (try clear hb); (try clear hb2); (try clear hk); (try clear hi)))
                                  go_ret
                                  exact ⟨by first | rfl | (simp [errW_none, errW_some] <;> rfl) | (simp [*, errW_none, errW_some] <;> rfl), by repeat (first | (with_reducible first | exact HB.out | apply below_alloc | apply pw_below_drewN | apply below_drew1) | exact HB.out)⟩
                                · rw [if_neg c94] at H
                                  have c94b0 : decide (t151 < 0) = false := decide_eq_false c94
                                  clear c94
                                  by_cases c96 : t151 = t137
                                  · rw [if_pos c96] at H
                                    have c96b0 : (t151 == t137) = true := beq_iff_eq.mpr c96
                                    have c96b1 : (t151 != t137) = false := bne_eq_false_iff_eq.mpr c96
                                    clear c96
                                    obtain rfl := Option.some.inj H
                                    go_wp2_with (first | ((with_reducible refine gate_callee (f := 39) rfl ?_); refine goesL_ (some 113) rfl rfl Try.func39 (by kernel_rfl) rfl #[.slice Ao76 t138.length co76, .int .i64 1] rfl (by (try simp only [List.map_toArray, List.map_cons, List.map_nil]); first | done | rfl | (simp only [List.length_drop, List.length_take]; rfl)) ?_; (with_reducible refine (laws_heldBlockS.calls kj74 _ _ t138 1 t151 _ ?side1 ?side2 A93.out).mono ?_); (case side1 => repeat (first | exact (Kd.R_reads' HO_10.out).2.2 | (with_reducible refine Kd.C_alloc ?_ _) | (with_reducible refine Kd.C_drewN ?_ _) | (with_reducible refine Kd.C_drew ?_))); (case side2 => exact (Kd.R_reads' HO_10.out).2.1); rintro e w97 ⟨rfl, hb⟩; refine ⟨_, rfl, ?_⟩; have n0_ := Aside0.mk (Kd.R_below (by (with_reducible repeat (first | apply Kd.R_alloc | apply Kd.R_drewN | apply Kd.R_drew)); exact HO_10.out) hb); have n1_ := Aside0.mk (below_step (by repeat (first | (with_reducible first | exact HB.out | apply below_alloc | apply pw_below_drewN | apply below_drew1) | exact HB.out)) hb); clear HO_10; clear HB; have HO_10 := n0_; have HB := n1_; clear n0_ n1_; (try clear hb); (try clear hb2); (try clear hk); (try clear hi)))
                                    go_ret
                                    exact ⟨by first | rfl | (simp [errW_none, errW_some] <;> rfl) | (simp [*, errW_none, errW_some] <;> rfl), by repeat (first | (with_reducible first | exact HB.out | apply below_alloc | apply pw_below_drewN | apply below_drew1) | exact HB.out)⟩
                                  · rw [if_neg c96] at H
                                    have c96b0 : (t151 == t137) = false := beq_eq_false_iff_ne.mpr c96
                                    have c96b1 : (t151 != t137) = true := bne_iff_ne.mpr c96
                                    obtain rfl := Option.some.inj H
                                    go_wp2_with (first | ((with_reducible refine gate_callee (f := 39) rfl ?_); refine goesL_ (some 113) rfl rfl Try.func39 (by kernel_rfl) rfl #[.slice Ao76 t138.length co76, .int .i64 1] rfl (by (try simp only [List.map_toArray, List.map_cons, List.map_nil]); first | done | rfl | (simp only [List.length_drop, List.length_take]; rfl)) ?_; (with_reducible refine (laws_heldBlockS.calls kj74 _ _ t138 1 t151 _ ?side1 ?side2 A93.out).mono ?_); (case side1 => repeat (first | exact (Kd.R_reads' HO_10.out).2.2 | (with_reducible refine Kd.C_alloc ?_ _) | (with_reducible refine Kd.C_drewN ?_ _) | (with_reducible refine Kd.C_drew ?_))); (case side2 => exact (Kd.R_reads' HO_10.out).2.1); rintro e w98 ⟨rfl, hb⟩; refine ⟨_, rfl, ?_⟩; have n0_ := Aside0.mk (Kd.R_below (by (with_reducible repeat (first | apply Kd.R_alloc | apply Kd.R_drewN | apply Kd.R_drew)); exact HO_10.out) hb); have n1_ := Aside0.mk (below_step (by repeat (first | (with_reducible first | exact HB.out | apply below_alloc | apply pw_below_drewN | apply below_drew1) | exact HB.out)) hb); clear HO_10; clear HB; have HO_10 := n0_; have HB := n1_; clear n0_ n1_; (try clear hb); (try clear hb2); (try clear hk); (try clear hi)))
                                    go_ret
                                    exact ⟨by first | rfl | (simp [errW_none, errW_some] <;> rfl) | (simp [*, errW_none, errW_some] <;> rfl), by repeat (first | (with_reducible first | exact HB.out | apply below_alloc | apply pw_below_drewN | apply below_drew1) | exact HB.out)⟩
                        · rw [if_neg c71] at H
                          have c71b0 : (t139 == t137) = false := beq_eq_false_iff_ne.mpr c71
                          have c71b1 : (t139 != t137) = true := bne_iff_ne.mpr c71
                          obtain rfl := Option.some.inj H
                          obtain ⟨Ao99, co99, eo99⟩ := Kd.R_slice HO_10.out
                          subst eo99
                          go_wp2_with (first | ((with_reducible refine gate_callee (f := 36) rfl ?_); refine goesL_ (some 85) rfl rfl Try.func36 (by kernel_rfl) rfl #[.slice Ao99 t119.length co99, .int .i64 1] rfl (by (try simp only [List.map_toArray, List.map_cons, List.map_nil]); first | done | rfl | (simp only [List.length_drop, List.length_take]; rfl)) ?_; (with_reducible refine (laws_markBlockS.calls kj45 (fun k_ => some k_ = (.slice Ao99 t119.length co99 : Value).ownBlock) (.slice Ao99 t119.length co99) t119 1 t137 t138 w _ ?side1 ?side2 A65.out).mono ?_); (case side1 => repeat (first | (with_reducible first | exact HB.out | apply below_alloc | apply pw_below_drewN | apply below_drew1) | exact HB.out)); (case side2 => exact Kd.R_tight rfl HO_10.out); rintro e w100 ⟨rfl, hy0, hb, hkp⟩; refine ⟨_, rfl, ?_⟩; have n0_ := Aside0.mk (Kd.R_mono (ok' := fun k_ => some k_ ≠ (.slice Ao99 t119.length co99 : Value).ownBlock) (Kd.R_keptB (HO_6.out) hkp (fun k_ hk_ hs_ => (hk_) hs_)) (fun k_ hk_ => hk_.1)); have n1_ := Aside0.mk (Kd.R_reok rfl hy0 (fun k_ e_ => HO_10.out.1 k_ e_)); have n2_ := Aside0.mk (hb); clear HO_6; clear HO_10; clear HB; have HO_6 := n0_; have HO_10 := n1_; have HB := n2_; clear n0_ n1_ n2_; (try clear hb); (try clear hkp); (try clear hy0)) | ((with_reducible refine gate_callee (f := 39) rfl ?_); refine goesL_ (some 88) rfl rfl Try.func39 (by kernel_rfl) rfl #[.slice Ao99 t138.length co99, .int .i64 1] rfl (by (try simp only [List.map_toArray, List.map_cons, List.map_nil]); first | done | (rw [show t138.length = t119.length from (Kd.R_reads' HO_10.out).1.symm] <;> rfl) | rfl | (simp only [List.length_drop, List.length_take]; rfl)) ?_; (with_reducible refine (laws_heldBlockS.calls kj45 _ _ t138 1 t139 _ ?side1 ?side2 A66.out).mono ?_); (case side1 => repeat (first | exact (Kd.R_reads' HO_10.out).2.2 | (with_reducible refine Kd.C_alloc ?_ _) | (with_reducible refine Kd.C_drewN ?_ _) | (with_reducible refine Kd.C_drew ?_))); (case side2 => rw [show t138.length = t119.length from (Kd.R_reads' HO_10.out).1.symm]; exact (Kd.R_reads' HO_10.out).2.1); rintro e w101 ⟨rfl, hb⟩; refine ⟨_, rfl, ?_⟩; have n0_ := Aside0.mk (Kd.R_below (by (with_reducible repeat (first | apply Kd.R_alloc | apply Kd.R_drewN | apply Kd.R_drew)); exact HO_6.out) hb); have n1_ := Aside0.mk (Kd.R_below (by (with_reducible repeat (first | apply Kd.R_alloc | apply Kd.R_drewN | apply Kd.R_drew)); exact HO_10.out) hb); have n2_ := Aside0.mk (below_step (by repeat (first | (with_reducible first | exact HB.out | apply below_alloc | apply pw_below_drewN | apply below_drew1) | exact HB.out)) hb); clear HO_6; clear HO_10; clear HB; have HO_6 := n0_; have HO_10 := n1_; have HB := n2_; clear n0_ n1_ n2_; (try clear hb); (try clear hb2); (try clear hk); (try clear hi)))
                          go_ret
                          exact ⟨by first | rfl | (simp [errW_none, errW_some] <;> rfl) | (simp [*, errW_none, errW_some] <;> rfl), by repeat (first | (with_reducible first | exact HB.out | apply below_alloc | apply pw_below_drewN | apply below_drew1) | exact HB.out)⟩
              · replace c43 := Bool.eq_false_iff.mpr c43
                subst c43
                have H1 : (some false) = some r := by rw [if_neg (show ¬ (false = true) by decide)] at H; exact H
                clear H
                have H := H1
                clear H1
                obtain rfl := Option.some.inj H
                go_wp2_with (first | ((with_reducible refine gate_callee (f := 25) rfl ?_); refine goesL_ (some 56) rfl rfl Try.func25 (by kernel_rfl) rfl #[.slice A0 l0.length c0] rfl (by (try simp only [List.map_toArray, List.map_cons, List.map_nil]); first | done | rfl | (simp only [List.length_drop, List.length_take]; rfl)) ?_; (with_reducible refine (laws_toBlockS.calls kj15 _ _ l0 t124 _ ?side1 ?side2 A38.out).mono ?_); (case side1 => repeat (first | exact (Kd.C_below HR0.out HB.out) | (with_reducible refine Kd.C_alloc ?_ _) | (with_reducible refine Kd.C_drewN ?_ _) | (with_reducible refine Kd.C_drew ?_))); (case side2 => exact HC0.out); rintro e w102 ⟨v125, rfl, ho0, hb⟩; refine ⟨_, rfl, ?_⟩; have n0_ := Aside0.mk (Kd.R_elder' (by (with_reducible repeat (first | apply Kd.R_alloc | apply Kd.R_drewN | apply Kd.R_drew)); exact HO_6.out) (Kd.R_base ho0) hb); have n1_ := Aside0.mk (Kd.R_elder' (by (with_reducible repeat (first | apply Kd.R_alloc | apply Kd.R_drewN | apply Kd.R_drew)); exact HO_8.out) (Kd.R_base ho0) hb); have n2_ := Aside0.mk (Kd.R_elder' (by (with_reducible repeat (first | apply Kd.R_alloc | apply Kd.R_drewN | apply Kd.R_drew)); exact HO_9.out) (Kd.R_base ho0) hb); have n3_ := Aside0.mk (Kd.R_elder' (by (with_reducible repeat (first | apply Kd.R_alloc | apply Kd.R_drewN | apply Kd.R_drew)); exact HO_10.out) (Kd.R_base ho0) hb); have n4_ := Aside0.mk (Kd.R_lower (Kd.R_new' (Kd.R_new' (Kd.R_new' (Kd.R_new' ho0 (Kd.R_lt (by (with_reducible repeat (first | apply Kd.R_alloc | apply Kd.R_drewN | apply Kd.R_drew)); exact HO_6.out))) (Kd.R_lt (by (with_reducible repeat (first | apply Kd.R_alloc | apply Kd.R_drewN | apply Kd.R_drew)); exact HO_8.out))) (Kd.R_lt (by (with_reducible repeat (first | apply Kd.R_alloc | apply Kd.R_drewN | apply Kd.R_drew)); exact HO_9.out))) (Kd.R_lt (by (with_reducible repeat (first | apply Kd.R_alloc | apply Kd.R_drewN | apply Kd.R_drew)); exact HO_10.out))) (below_size (by repeat (first | (with_reducible first | exact HB.out | apply below_alloc | apply pw_below_drewN | apply below_drew1) | exact HB.out)))); have n5_ := Aside0.mk (below_step (by repeat (first | (with_reducible first | exact HB.out | apply below_alloc | apply pw_below_drewN | apply below_drew1) | exact HB.out)) hb); clear HO_6; clear HO_8; clear HO_9; clear HO_10; clear HB; have HO_6 := n0_; have HO_8 := n1_; have HO_9 := n2_; have HO_10 := n3_; have HO126 := n4_; have HB := n5_; clear n0_ n1_ n2_ n3_ n4_ n5_; (try clear hb); (try clear hb2); (try clear hk); (try clear hi); (try clear ho0); obtain ⟨Ao103, co103, eo103⟩ := Kd.R_slice HO126.out; subst eo103) | ((with_reducible refine gate_callee (f := 27) rfl ?_); refine goesL_ (some 57) rfl rfl Try.func27 (by kernel_rfl) rfl #[.slice Ao26 t113.length co26, .slice Ao103 t124.length co103] rfl (by (try simp only [List.map_toArray, List.map_cons, List.map_nil]); first | done | rfl | (simp only [List.length_drop, List.length_take]; rfl)) ?_; (with_reducible refine (laws_eqBlockS.calls kj15 _ _ t113 _ _ t124 true _ ?side1 ?side2 ?side3 ?side4 A39.out).mono ?_); (case side1 => repeat (first | exact (Kd.R_reads' HO_8.out).2.2 | (with_reducible refine Kd.C_alloc ?_ _) | (with_reducible refine Kd.C_drewN ?_ _) | (with_reducible refine Kd.C_drew ?_))); (case side2 => exact (Kd.R_reads' HO_8.out).2.1); (case side3 => repeat (first | exact (Kd.R_reads' HO126.out).2.2 | (with_reducible refine Kd.C_alloc ?_ _) | (with_reducible refine Kd.C_drewN ?_ _) | (with_reducible refine Kd.C_drew ?_))); (case side4 => exact (Kd.R_reads' HO126.out).2.1); rintro e w104 ⟨rfl, hb⟩; refine ⟨_, rfl, ?_⟩; have n0_ := Aside0.mk (Kd.R_below (by (with_reducible repeat (first | apply Kd.R_alloc | apply Kd.R_drewN | apply Kd.R_drew)); exact HO_6.out) hb); have n1_ := Aside0.mk (Kd.R_below (by (with_reducible repeat (first | apply Kd.R_alloc | apply Kd.R_drewN | apply Kd.R_drew)); exact HO_8.out) hb); have n2_ := Aside0.mk (Kd.R_below (by (with_reducible repeat (first | apply Kd.R_alloc | apply Kd.R_drewN | apply Kd.R_drew)); exact HO_9.out) hb); have n3_ := Aside0.mk (Kd.R_below (by (with_reducible repeat (first | apply Kd.R_alloc | apply Kd.R_drewN | apply Kd.R_drew)); exact HO_10.out) hb); have n4_ := Aside0.mk (Kd.R_below (by (with_reducible repeat (first | apply Kd.R_alloc | apply Kd.R_drewN | apply Kd.R_drew)); exact HO126.out) hb); have n5_ := Aside0.mk (below_step (by repeat (first | (with_reducible first | exact HB.out | apply below_alloc | apply pw_below_drewN | apply below_drew1) | exact HB.out)) hb); clear HO_6; clear HO_8; clear HO_9; clear HO_10; clear HO126; clear HB; have HO_6 := n0_; have HO_8 := n1_; have HO_9 := n2_; have HO_10 := n3_; have HO126 := n4_; have HB := n5_; clear n0_ n1_ n2_ n3_ n4_ n5_; (try clear hb); (try clear hb2); (try clear hk); (try clear hi)) | ((with_reducible refine gate_callee (f := 25) rfl ?_); refine goesL_ (some 61) rfl rfl Try.func25 (by kernel_rfl) rfl #[.slice A1 l1.length c1] rfl (by (try simp only [List.map_toArray, List.map_cons, List.map_nil]); first | done | rfl | (simp only [List.length_drop, List.length_take]; rfl)) ?_; (with_reducible refine (laws_toBlockS.calls kj15 _ _ l1 t128 _ ?side1 ?side2 A41.out).mono ?_); (case side1 => repeat (first | exact (Kd.C_below HR1.out HB.out) | (with_reducible refine Kd.C_alloc ?_ _) | (with_reducible refine Kd.C_drewN ?_ _) | (with_reducible refine Kd.C_drew ?_))); (case side2 => exact HC1.out); rintro e w105 ⟨v129, rfl, ho0, hb⟩; refine ⟨_, rfl, ?_⟩; have n0_ := Aside0.mk (Kd.R_elder' (by (with_reducible repeat (first | apply Kd.R_alloc | apply Kd.R_drewN | apply Kd.R_drew)); exact HO_6.out) (Kd.R_base ho0) hb); have n1_ := Aside0.mk (Kd.R_elder' (by (with_reducible repeat (first | apply Kd.R_alloc | apply Kd.R_drewN | apply Kd.R_drew)); exact HO_8.out) (Kd.R_base ho0) hb); have n2_ := Aside0.mk (Kd.R_elder' (by (with_reducible repeat (first | apply Kd.R_alloc | apply Kd.R_drewN | apply Kd.R_drew)); exact HO_9.out) (Kd.R_base ho0) hb); have n3_ := Aside0.mk (Kd.R_elder' (by (with_reducible repeat (first | apply Kd.R_alloc | apply Kd.R_drewN | apply Kd.R_drew)); exact HO_10.out) (Kd.R_base ho0) hb); have n4_ := Aside0.mk (Kd.R_elder' (by (with_reducible repeat (first | apply Kd.R_alloc | apply Kd.R_drewN | apply Kd.R_drew)); exact HO126.out) (Kd.R_base ho0) hb); have n5_ := Aside0.mk (Kd.R_lower (Kd.R_new' (Kd.R_new' (Kd.R_new' (Kd.R_new' (Kd.R_new' ho0 (Kd.R_lt (by (with_reducible repeat (first | apply Kd.R_alloc | apply Kd.R_drewN | apply Kd.R_drew)); exact HO_6.out))) (Kd.R_lt (by (with_reducible repeat (first | apply Kd.R_alloc | apply Kd.R_drewN | apply Kd.R_drew)); exact HO_8.out))) (Kd.R_lt (by (with_reducible repeat (first | apply Kd.R_alloc | apply Kd.R_drewN | apply Kd.R_drew)); exact HO_9.out))) (Kd.R_lt (by (with_reducible repeat (first | apply Kd.R_alloc | apply Kd.R_drewN | apply Kd.R_drew)); exact HO_10.out))) (Kd.R_lt (by (with_reducible repeat (first | apply Kd.R_alloc | apply Kd.R_drewN | apply Kd.R_drew)); exact HO126.out))) (below_size (by repeat (first | (with_reducible first | exact HB.out | apply below_alloc | apply pw_below_drewN | apply below_drew1) | exact HB.out)))); have n6_ := Aside0.mk (below_step (by repeat (first | (with_reducible first | exact HB.out | apply below_alloc | apply pw_below_drewN | apply below_drew1) | exact HB.out)) hb); clear HO_6; clear HO_8; clear HO_9; clear HO_10; clear HO126; clear HB; have HO_6 := n0_; have HO_8 := n1_; have HO_9 := n2_; have HO_10 := n3_; have HO126 := n4_; have HO130 := n5_; have HB := n6_; clear n0_ n1_ n2_ n3_ n4_ n5_ n6_; (try clear hb); (try clear hb2); (try clear hk); (try clear hi); (try clear ho0); obtain ⟨Ao106, co106, eo106⟩ := Kd.R_slice HO130.out; subst eo106) | ((with_reducible refine gate_callee (f := 27) rfl ?_); refine goesL_ (some 62) rfl rfl Try.func27 (by kernel_rfl) rfl #[.slice Ao27 t116.length co27, .slice Ao106 t128.length co106] rfl (by (try simp only [List.map_toArray, List.map_cons, List.map_nil]); first | done | rfl | (simp only [List.length_drop, List.length_take]; rfl)) ?_; (with_reducible refine (laws_eqBlockS.calls kj15 _ _ t116 _ _ t128 false _ ?side1 ?side2 ?side3 ?side4 A42.out).mono ?_); (case side1 => repeat (first | exact (Kd.R_reads' HO_9.out).2.2 | (with_reducible refine Kd.C_alloc ?_ _) | (with_reducible refine Kd.C_drewN ?_ _) | (with_reducible refine Kd.C_drew ?_))); (case side2 => exact (Kd.R_reads' HO_9.out).2.1); (case side3 => repeat (first | exact (Kd.R_reads' HO130.out).2.2 | (with_reducible refine Kd.C_alloc ?_ _) | (with_reducible refine Kd.C_drewN ?_ _) | (with_reducible refine Kd.C_drew ?_))); (case side4 => exact (Kd.R_reads' HO130.out).2.1); rintro e w107 ⟨rfl, hb⟩; refine ⟨_, rfl, ?_⟩; have n0_ := Aside0.mk (Kd.R_below (by (with_reducible repeat (first | apply Kd.R_alloc | apply Kd.R_drewN | apply Kd.R_drew)); exact HO_6.out) hb); have n1_ := Aside0.mk (Kd.R_below (by (with_reducible repeat (first | apply Kd.R_alloc | apply Kd.R_drewN | apply Kd.R_drew)); exact HO_8.out) hb); have n2_ := Aside0.mk (Kd.R_below (by (with_reducible repeat (first | apply Kd.R_alloc | apply Kd.R_drewN | apply Kd.R_drew)); exact HO_9.out) hb); have n3_ := Aside0.mk (Kd.R_below (by (with_reducible repeat (first | apply Kd.R_alloc | apply Kd.R_drewN | apply Kd.R_drew)); exact HO_10.out) hb); have n4_ := Aside0.mk (Kd.R_below (by (with_reducible repeat (first | apply Kd.R_alloc | apply Kd.R_drewN | apply Kd.R_drew)); exact HO126.out) hb); have n5_ := Aside0.mk (Kd.R_below (by (with_reducible repeat (first | apply Kd.R_alloc | apply Kd.R_drewN | apply Kd.R_drew)); exact HO130.out) hb); have n6_ := Aside0.mk (below_step (by repeat (first | (with_reducible first | exact HB.out | apply below_alloc | apply pw_below_drewN | apply below_drew1) | exact HB.out)) hb); clear HO_6; clear HO_8; clear HO_9; clear HO_10; clear HO126; clear HO130; clear HB; have HO_6 := n0_; have HO_8 := n1_; have HO_9 := n2_; have HO_10 := n3_; have HO126 := n4_; have HO130 := n5_; have HB := n6_; clear n0_ n1_ n2_ n3_ n4_ n5_ n6_; (try clear hb); (try clear hb2); (try clear hk); (try clear hi)))
                go_ret
                exact ⟨by first | rfl | (simp [errW_none, errW_some] <;> rfl) | (simp [*, errW_none, errW_some] <;> rfl), by repeat (first | (with_reducible first | exact HB.out | apply below_alloc | apply pw_below_drewN | apply below_drew1) | exact HB.out)⟩
            · replace c40 := Bool.eq_false_iff.mpr c40
              subst c40
              have H1 : (some false) = some r := by rw [if_neg (show ¬ (false = true) by decide)] at H; exact H
              clear H
              have H := H1
              clear H1
              obtain rfl := Option.some.inj H
              go_wp2_with (first | ((with_reducible refine gate_callee (f := 25) rfl ?_); refine goesL_ (some 56) rfl rfl Try.func25 (by kernel_rfl) rfl #[.slice A0 l0.length c0] rfl (by (try simp only [List.map_toArray, List.map_cons, List.map_nil]); first | done | rfl | (simp only [List.length_drop, List.length_take]; rfl)) ?_; (with_reducible refine (laws_toBlockS.calls kj15 _ _ l0 t124 _ ?side1 ?side2 A38.out).mono ?_); (case side1 => repeat (first | exact (Kd.C_below HR0.out HB.out) | (with_reducible refine Kd.C_alloc ?_ _) | (with_reducible refine Kd.C_drewN ?_ _) | (with_reducible refine Kd.C_drew ?_))); (case side2 => exact HC0.out); rintro e w108 ⟨v125, rfl, ho0, hb⟩; refine ⟨_, rfl, ?_⟩; have n0_ := Aside0.mk (Kd.R_elder' (by (with_reducible repeat (first | apply Kd.R_alloc | apply Kd.R_drewN | apply Kd.R_drew)); exact HO_6.out) (Kd.R_base ho0) hb); have n1_ := Aside0.mk (Kd.R_elder' (by (with_reducible repeat (first | apply Kd.R_alloc | apply Kd.R_drewN | apply Kd.R_drew)); exact HO_8.out) (Kd.R_base ho0) hb); have n2_ := Aside0.mk (Kd.R_elder' (by (with_reducible repeat (first | apply Kd.R_alloc | apply Kd.R_drewN | apply Kd.R_drew)); exact HO_9.out) (Kd.R_base ho0) hb); have n3_ := Aside0.mk (Kd.R_elder' (by (with_reducible repeat (first | apply Kd.R_alloc | apply Kd.R_drewN | apply Kd.R_drew)); exact HO_10.out) (Kd.R_base ho0) hb); have n4_ := Aside0.mk (Kd.R_lower (Kd.R_new' (Kd.R_new' (Kd.R_new' (Kd.R_new' ho0 (Kd.R_lt (by (with_reducible repeat (first | apply Kd.R_alloc | apply Kd.R_drewN | apply Kd.R_drew)); exact HO_6.out))) (Kd.R_lt (by (with_reducible repeat (first | apply Kd.R_alloc | apply Kd.R_drewN | apply Kd.R_drew)); exact HO_8.out))) (Kd.R_lt (by (with_reducible repeat (first | apply Kd.R_alloc | apply Kd.R_drewN | apply Kd.R_drew)); exact HO_9.out))) (Kd.R_lt (by (with_reducible repeat (first | apply Kd.R_alloc | apply Kd.R_drewN | apply Kd.R_drew)); exact HO_10.out))) (below_size (by repeat (first | (with_reducible first | exact HB.out | apply below_alloc | apply pw_below_drewN | apply below_drew1) | exact HB.out)))); have n5_ := Aside0.mk (below_step (by repeat (first | (with_reducible first | exact HB.out | apply below_alloc | apply pw_below_drewN | apply below_drew1) | exact HB.out)) hb); clear HO_6; clear HO_8; clear HO_9; clear HO_10; clear HB; have HO_6 := n0_; have HO_8 := n1_; have HO_9 := n2_; have HO_10 := n3_; have HO126 := n4_; have HB := n5_; clear n0_ n1_ n2_ n3_ n4_ n5_; (try clear hb); (try clear hb2); (try clear hk); (try clear hi); (try clear ho0); obtain ⟨Ao109, co109, eo109⟩ := Kd.R_slice HO126.out; subst eo109) | ((with_reducible refine gate_callee (f := 27) rfl ?_); refine goesL_ (some 57) rfl rfl Try.func27 (by kernel_rfl) rfl #[.slice Ao26 t113.length co26, .slice Ao109 t124.length co109] rfl (by (try simp only [List.map_toArray, List.map_cons, List.map_nil]); first | done | rfl | (simp only [List.length_drop, List.length_take]; rfl)) ?_; (with_reducible refine (laws_eqBlockS.calls kj15 _ _ t113 _ _ t124 false _ ?side1 ?side2 ?side3 ?side4 A39.out).mono ?_); (case side1 => repeat (first | exact (Kd.R_reads' HO_8.out).2.2 | (with_reducible refine Kd.C_alloc ?_ _) | (with_reducible refine Kd.C_drewN ?_ _) | (with_reducible refine Kd.C_drew ?_))); (case side2 => exact (Kd.R_reads' HO_8.out).2.1); (case side3 => repeat (first | exact (Kd.R_reads' HO126.out).2.2 | (with_reducible refine Kd.C_alloc ?_ _) | (with_reducible refine Kd.C_drewN ?_ _) | (with_reducible refine Kd.C_drew ?_))); (case side4 => exact (Kd.R_reads' HO126.out).2.1); rintro e w110 ⟨rfl, hb⟩; refine ⟨_, rfl, ?_⟩; have n0_ := Aside0.mk (Kd.R_below (by (with_reducible repeat (first | apply Kd.R_alloc | apply Kd.R_drewN | apply Kd.R_drew)); exact HO_6.out) hb); have n1_ := Aside0.mk (Kd.R_below (by (with_reducible repeat (first | apply Kd.R_alloc | apply Kd.R_drewN | apply Kd.R_drew)); exact HO_8.out) hb); have n2_ := Aside0.mk (Kd.R_below (by (with_reducible repeat (first | apply Kd.R_alloc | apply Kd.R_drewN | apply Kd.R_drew)); exact HO_9.out) hb); have n3_ := Aside0.mk (Kd.R_below (by (with_reducible repeat (first | apply Kd.R_alloc | apply Kd.R_drewN | apply Kd.R_drew)); exact HO_10.out) hb); have n4_ := Aside0.mk (Kd.R_below (by (with_reducible repeat (first | apply Kd.R_alloc | apply Kd.R_drewN | apply Kd.R_drew)); exact HO126.out) hb); have n5_ := Aside0.mk (below_step (by repeat (first | (with_reducible first | exact HB.out | apply below_alloc | apply pw_below_drewN | apply below_drew1) | exact HB.out)) hb); clear HO_6; clear HO_8; clear HO_9; clear HO_10; clear HO126; clear HB; have HO_6 := n0_; have HO_8 := n1_; have HO_9 := n2_; have HO_10 := n3_; have HO126 := n4_; have HB := n5_; clear n0_ n1_ n2_ n3_ n4_ n5_; (try clear hb); (try clear hb2); (try clear hk); (try clear hi)))
              go_ret
              exact ⟨by first | rfl | (simp [errW_none, errW_some] <;> rfl) | (simp [*, errW_none, errW_some] <;> rfl), by repeat (first | (with_reducible first | exact HB.out | apply below_alloc | apply pw_below_drewN | apply below_drew1) | exact HB.out)⟩
end Go.Proofs.Ytpdggpfobbkdnaa.A
end
section
namespace Go.Proofs.Ytpdggpfobbkdnaa.A
open Go.RowKit Go.Proofs.YtpdggpfobbkdnaaW.PrintWords Go.Proofs.YtpdggpfobbkdnaaW.PrintLast Go.Proofs.Ytpdggpfobbkdnaa.A
def wf66 (b : S66) : Prop := (b.f0.size ≤ maxLen) ∧ (b.f1.size ≤ maxLen) ∧ (b.f2.size ≤ maxLen)
def laws_FnExactMergeBlocks.Pure : Prop := ∀ (l0 : List (S66)) (l1 : List (S66)), (l0.length ≤ maxLen ∧ ∀ z ∈ l0, wf66 z) → (l1.length ≤ maxLen ∧ ∀ z ∈ l1, wf66 z) → ∃ k, laws_FnExactMergeBlocks.f k l0 l1 = some true
end Go.Proofs.Ytpdggpfobbkdnaa.A
end
section
namespace Go.Proofs.Ytpdggpfobbkdnaa.A
open Go.RowKit Go.Proofs.YtpdggpfobbkdnaaW.PrintWords Go.Proofs.YtpdggpfobbkdnaaW.PrintLast
theorem Ev.pos {α : Type} {c : Prop} [Decidable c] {f g : Nat → Option α} {r : α} (h : c) (k : Ev f r) : Ev (fun n => if c then f n else g n) r := by
  simpa only [if_pos h] using k
theorem Ev.neg {α : Type} {c : Prop} [Decidable c] {f g : Nat → Option α} {r : α} (h : ¬ c) (k : Ev g r) : Ev (fun n => if c then f n else g n) r := by
  simpa only [if_neg h] using k
theorem Ev.succ {α : Type} {g : Nat → Option α} {r : α} (k : Ev (fun n => g (n + 1)) r) : Ev g r := Ev.step (fun _ => rfl) k
theorem Ev.to {α : Type} {g : Nat → Option α} {r s : α} (h : Ev g r) (e : r = s) : Ev g s := e ▸ h
theorem Ev.uniq {α : Type} {g : Nat → Option α} {r s : α} (h : Ev g r) (h' : Ev g s) : r = s := by
  obtain ⟨K, h⟩ := h
  obtain ⟨K', h'⟩ := h'
  have a := h (max K K') (by omega)
  have b := h' (max K K') (by omega)
  exact Option.some.inj (a.symm.trans b)
theorem Ev.const {α : Type} {o : Option α} {r : α} (h : o = some r) : Ev (fun _ => o) r := ⟨0, fun _ _ => h⟩
theorem w64 {x : Int} (h1 : -9223372036854775808 ≤ x) (h2 : x ≤ 9223372036854775807) : wrap64 x = x := by
  unfold wrap64
  omega
theorem w64_succ {i n : Nat} (h : i < n) (hn : n ≤ 9223372036854775807) : wrap64 ((i : Int) + 1) = ((i + 1 : Nat) : Int) := by
  rw [w64 (by omega) (by omega)]
  omega
theorem bt_at_nat (s : ByteArray) (i : Nat) (h : i < s.size) : bt s (i : Int) = (s[i].toNat : Int) := by
  simp [bt, h]
theorem toList_eq (s : ByteArray) : s.toList = s.data.toList := Go.ByteArray.toList_eq s
theorem bytes_ext {s t : ByteArray} (h : s.toList = t.toList) : s = t := by
  rw [toList_eq, toList_eq] at h
  obtain ⟨⟨a⟩⟩ := s
  obtain ⟨⟨b⟩⟩ := t
  simp at h
  rw [h]
theorem ba_size (s : ByteArray) : s.data.toList.length = s.size := Nat.add_zero _
theorem ba_toList_len (s : ByteArray) : s.toList.length = s.size := by rw [toList_eq, ba_size]
end Go.Proofs.Ytpdggpfobbkdnaa.A
end
section
namespace Go.Proofs.Ytpdggpfobbkdnaa.A
open Go.RowKit Go.Proofs.YtpdggpfobbkdnaaW.PrintWords Go.Proofs.YtpdggpfobbkdnaaW.PrintLast
def chOk (c : UInt8) : Bool := (decide (97 ≤ c.toNat) && decide (c.toNat ≤ 122)) || (decide (48 ≤ c.toNat) && decide (c.toNat ≤ 57))
def nmFrom (s : ByteArray) (i : Nat) : Bool := (s.data.toList.drop i).all chOk
theorem nmFrom_end (s : ByteArray) : nmFrom s s.size = true := by
  unfold nmFrom
  rw [List.drop_of_length_le (by rw [ba_size]; omega)]
  rfl
theorem nmFrom_succ (s : ByteArray) (i : Nat) (h : i < s.size) : nmFrom s i = (chOk s[i] && nmFrom s (i + 1)) := by
  unfold nmFrom
  have h' : i < s.data.toList.length := by rw [ba_size]; exact h
  rw [List.drop_eq_getElem_cons h', List.all_cons]
  rfl
def isNm (s : ByteArray) : Bool := decide (1 ≤ s.size) && (decide (s.size ≤ 10) && ((decide (97 ≤ bt s 0) && decide (bt s 0 ≤ 122)) && nmFrom s 0))
theorem l01Small_eq (c : Int) : spec_l01Small.f c = some (decide (97 ≤ c) && decide (c ≤ 122)) := by
  unfold spec_l01Small.f
  by_cases h : c ≥ 97
  · rw [if_pos h, decide_eq_true (by omega : 97 ≤ c), Bool.true_and]
  · rw [if_neg h, decide_eq_false (by omega : ¬ 97 ≤ c), Bool.false_and]
theorem l01Digit_eq (c : Int) : spec_l01Digit.f c = some (decide (48 ≤ c) && decide (c ≤ 57)) := by
  unfold spec_l01Digit.f
  by_cases h : c ≥ 48
  · rw [if_pos h, decide_eq_true (by omega : 48 ≤ c), Bool.true_and]
  · rw [if_neg h, decide_eq_false (by omega : ¬ 48 ≤ c), Bool.false_and]
theorem l01Name_l0 (s : ByteArray) (hs : s.size ≤ 9223372036854775807) : ∀ (d i : Nat), i + d = s.size → Ev (fun k => spec_l01Name.l0 k s i) (nmFrom s i) := by
  intro d
  induction d with
  | zero =>
    intro i hi
    refine Ev.succ ?_
    simp only [spec_l01Name.l0]
    obtain rfl : i = s.size := by omega
    rw [nmFrom_end]
    exact Ev.neg (by omega) (Ev.now _)
  | succ d ih =>
    intro i hi
    have hlt : i < s.size := by omega
    refine Ev.succ ?_
    simp only [spec_l01Name.l0, bt_at_nat s i hlt, w64_succ hlt hs, l01Small_eq, l01Digit_eq, Option.bind_some]
    rw [nmFrom_succ _ _ hlt, chOk]
    refine Ev.pos (by omega) (Ev.pos (by omega) ?_)
    have e1 : (decide ((97 : Int) ≤ (s[i].toNat : Int)) && decide ((s[i].toNat : Int) ≤ 122)) = (decide (97 ≤ s[i].toNat) && decide (s[i].toNat ≤ 122)) := by
      rw [Bool.eq_iff_iff]
      simp
      omega
    have e2 : (decide ((48 : Int) ≤ (s[i].toNat : Int)) && decide ((s[i].toNat : Int) ≤ 57)) = (decide (48 ≤ s[i].toNat) && decide (s[i].toNat ≤ 57)) := by
      rw [Bool.eq_iff_iff]
      simp
      omega
    rw [e1, e2]
    cases h1 : (decide (97 ≤ s[i].toNat) && decide (s[i].toNat ≤ 122)) with
    | true => exact Ev.pos rfl (Ev.to (ih (i + 1) (by omega)) (by simp))
    | false =>
      cases h2 : (decide (48 ≤ s[i].toNat) && decide (s[i].toNat ≤ 57)) with
      | true => exact Ev.neg (by decide) (Ev.pos rfl (Ev.to (ih (i + 1) (by omega)) (by simp)))
      | false => exact Ev.neg (by decide) (Ev.neg (by decide) (Ev.to (Ev.now _) (by simp)))
theorem nil_of_size {s : ByteArray} (h : s.toList = ([] : List UInt8)) : s.size = 0 := by
  rw [← ba_toList_len, h]
  rfl
theorem l01Name_ev (s : ByteArray) (hs : s.size ≤ 9223372036854775807) : Ev (fun k => spec_l01Name.f k s) (isNm s) := by
  simp only [spec_l01Name.f, l01Small_eq, Option.bind_some, isNm]
  by_cases h0 : s.toList = ([] : List UInt8)
  · have hz := nil_of_size h0
    refine Ev.pos h0 (Ev.succ ?_)
    simp only [spec_l01Name.j0]
    exact Ev.pos trivial (Ev.to (Ev.now _) (by rw [hz]; rfl))
  · refine Ev.neg h0 ?_
    have hne : s.size ≠ 0 := fun h => h0 (by rw [← List.length_eq_zero_iff, ba_toList_len]; exact h)
    by_cases h1 : (s.size : Int) > 10
    · refine Ev.pos h1 (Ev.succ ?_)
      simp only [spec_l01Name.j0]
      exact Ev.pos trivial (Ev.to (Ev.now _) (by rw [decide_eq_false (by omega : ¬ s.size ≤ 10)]; simp))
    · refine Ev.neg h1 (Ev.pos (by omega) (Ev.succ ?_))
      simp only [spec_l01Name.j0]
      rw [decide_eq_true (by omega : 1 ≤ s.size), decide_eq_true (by omega : s.size ≤ 10), Bool.true_and, Bool.true_and]
      cases h2 : (decide ((97 : Int) ≤ bt s 0) && decide (bt s 0 ≤ 122)) with
      | true => exact Ev.neg (by decide) (Ev.to (l01Name_l0 s hs s.size 0 (by omega)) (by simp))
      | false => exact Ev.pos rfl (Ev.to (Ev.now _) (by simp))
theorem onlyNameBytes_l0 (s : ByteArray) (hs : s.size ≤ 9223372036854775807) : ∀ (d i : Nat), i + d = s.size → Ev (fun k => impl_onlyNameBytes.l0 k s (s.size : Int) i) (nmFrom s i) := by
  intro d
  induction d with
  | zero =>
    intro i hi
    refine Ev.succ ?_
    simp only [impl_onlyNameBytes.l0]
    obtain rfl : i = s.size := by omega
    rw [nmFrom_end]
    exact Ev.neg (by omega) (Ev.now _)
  | succ d ih =>
    intro i hi
    have hlt : i < s.size := by omega
    refine Ev.succ ?_
    simp only [impl_onlyNameBytes.l0, bt_at_nat s i hlt, w64_succ hlt hs]
    rw [nmFrom_succ _ _ hlt]
    refine Ev.pos (by omega) (Ev.pos (by omega) (Ev.pos (by omega) ?_))
    have yes : chOk s[i] = true → (chOk s[i] && nmFrom s (i + 1)) = nmFrom s (i + 1) := fun h => by rw [h, Bool.true_and]
    have no : chOk s[i] = false → false = (chOk s[i] && nmFrom s (i + 1)) := fun h => by rw [h, Bool.false_and]
    have hc : chOk s[i] = true ↔ (97 ≤ s[i].toNat ∧ s[i].toNat ≤ 122) ∨ (48 ≤ s[i].toNat ∧ s[i].toNat ≤ 57) := by simp [chOk]
    have hn : chOk s[i] = false ↔ ¬ ((97 ≤ s[i].toNat ∧ s[i].toNat ≤ 122) ∨ (48 ≤ s[i].toNat ∧ s[i].toNat ≤ 57)) := by rw [← hc, Bool.not_eq_true]
    have go := ih (i + 1) (by omega)
    have digit : ¬ (97 ≤ s[i].toNat ∧ s[i].toNat ≤ 122) → Ev (fun k => if (s[i].toNat : Int) < 48 then some false else if (s[i].toNat : Int) > 57 then some false else impl_onlyNameBytes.l0 k s (s.size : Int) ((i + 1 : Nat) : Int)) (chOk s[i] && nmFrom s (i + 1)) := by
      intro hs
      by_cases h3 : (s[i].toNat : Int) < 48
      · exact Ev.pos h3 (Ev.to (Ev.now _) (no (hn.2 (by omega))))
      · by_cases h4 : (s[i].toNat : Int) > 57
        · exact Ev.neg h3 (Ev.pos h4 (Ev.to (Ev.now _) (no (hn.2 (by omega)))))
        · exact Ev.neg h3 (Ev.neg h4 (Ev.to go (yes (hc.2 (by omega))).symm))
    by_cases h1 : (s[i].toNat : Int) < 97
    · exact Ev.pos h1 (digit (by omega))
    · by_cases h2 : (s[i].toNat : Int) > 122
      · exact Ev.neg h1 (Ev.pos h2 (digit (by omega)))
      · exact Ev.neg h1 (Ev.neg h2 (Ev.to go (yes (hc.2 (by omega))).symm))
theorem IsName_ev (s : ByteArray) (hs : s.size ≤ 9223372036854775807) : Ev (fun k => impl_IsName.f k s) (isNm s) := by
  simp only [impl_IsName.f, isNm]
  by_cases h0 : (s.size : Int) < 1
  · exact Ev.pos h0 (Ev.to (Ev.now _) (by rw [decide_eq_false (by omega : ¬ 1 ≤ s.size)]; rfl))
  · refine Ev.neg h0 ?_
    rw [decide_eq_true (by omega : 1 ≤ s.size), Bool.true_and]
    by_cases h1 : (s.size : Int) > 10
    · exact Ev.pos h1 (Ev.to (Ev.now _) (by rw [decide_eq_false (by omega : ¬ s.size ≤ 10)]; rfl))
    · refine Ev.neg h1 (Ev.pos (by omega) ?_)
      rw [decide_eq_true (by omega : s.size ≤ 10), Bool.true_and]
      by_cases h2 : bt s 0 < 97
      · exact Ev.pos h2 (Ev.to (Ev.now _) (by rw [decide_eq_false (by omega : ¬ 97 ≤ bt s 0)]; rfl))
      · by_cases h3 : bt s 0 > 122
        · exact Ev.neg h2 (Ev.pos h3 (Ev.to (Ev.now _) (by rw [decide_eq_false (by omega : ¬ bt s 0 ≤ 122)]; simp)))
        · refine Ev.neg h2 (Ev.neg h3 ?_)
          rw [decide_eq_true (by omega : 97 ≤ bt s 0), decide_eq_true (by omega : bt s 0 ≤ 122)]
          simp only [impl_onlyNameBytes.f]
          exact Ev.bind (onlyNameBytes_l0 s hs s.size 0 (by omega)) (Ev.to (Ev.now _) (by simp))
end Go.Proofs.Ytpdggpfobbkdnaa.A
end
section
namespace Go.Proofs.Ytpdggpfobbkdnaa.A
open Go.RowKit Go.Proofs.YtpdggpfobbkdnaaW.PrintWords Go.Proofs.YtpdggpfobbkdnaaW.PrintLast
abbrev Blk := S69
def blkOk (b : Blk) : Bool := isNm b.f0 && (isNm b.f1 && (decide (b.f2.size ≤ 400) && !b.f2.data.toList.contains 10))
def blkLt (a b : Blk) : Bool := Op.bytesLess a.f0.toList b.f0.toList || (a.f0.toList == b.f0.toList && Op.bytesLess a.f1.toList b.f1.toList)
theorem rdB_at (l : List Blk) (i : Nat) (h : i < l.length) : rd_T69 l (i : Int) = l[i] := by
  simp [rd_T69, List.getD_eq_getElem?_getD, List.getElem?_eq_getElem h]
def BFit (b : Blk) : Prop := b.f0.size ≤ 9223372036854775807 ∧ b.f1.size ≤ 9223372036854775807 ∧ b.f2.size ≤ 9223372036854775807
def noNl (s : ByteArray) (i : Nat) : Bool := !(s.data.toList.drop i).contains 10
theorem noNl_succ (s : ByteArray) (i : Nat) (h : i < s.size) : noNl s i = (!(s[i] == 10) && noNl s (i + 1)) := by
  unfold noNl
  have h' : i < s.data.toList.length := by rw [ba_size]; exact h
  rw [List.drop_eq_getElem_cons h', List.contains_cons, Bool.not_or]
  congr 2
  rw [Bool.eq_iff_iff, beq_iff_eq, beq_iff_eq]
  exact eq_comm
theorem l29One_l0 (l : List Blk) (p : Nat) (hp : p < l.length) (hf : BFit l[p]) : ∀ (d i : Nat), i + d = l[p].f2.size →
    Ev (fun k => spec_l29One.l0 k i l p) (isNm l[p].f0 && (isNm l[p].f1 && (decide (l[p].f2.size ≤ 400) && noNl l[p].f2 i))) := by
  intro d
  induction d with
  | zero =>
    intro i hi
    refine Ev.succ ?_
    simp only [spec_l29One.l0, rdB_at l p hp]
    have hn : noNl l[p].f2 i = true := by
      unfold noNl
      rw [List.drop_of_length_le (by rw [ba_size]; omega)]
      rfl
    rw [hn]
    refine Ev.neg (by omega) (Ev.bind (l01Name_ev _ hf.1) ?_)
    cases h0 : isNm l[p].f0 with
    | false => exact Ev.neg (by decide) (Ev.now _)
    | true =>
      refine Ev.pos rfl (Ev.bind (l01Name_ev _ hf.2.1) ?_)
      cases h1 : isNm l[p].f1 with
      | false => exact Ev.neg (by decide) (Ev.now _)
      | true => exact Ev.pos rfl (Ev.to (Ev.now _) (by rw [Bool.eq_iff_iff]; simp; omega))
  | succ d ih =>
    intro i hi
    have hlt : i < l[p].f2.size := by omega
    refine Ev.succ ?_
    simp only [spec_l29One.l0, rdB_at l p hp, bt_at_nat _ i hlt, w64_succ hlt hf.2.2]
    rw [noNl_succ _ _ hlt]
    refine Ev.pos (by omega) (Ev.pos (by omega) ?_)
    by_cases h : (l[p].f2[i].toNat : Int) = 10
    · refine Ev.pos h (Ev.to (Ev.now _) ?_)
      have : (l[p].f2[i] == 10) = true := by
        rw [beq_iff_eq]
        exact UInt8.toNat_inj.1 (by show _ = 10; omega)
      rw [this]
      simp
    · refine Ev.neg h (Ev.to (ih (i + 1) (by omega)) ?_)
      have : (l[p].f2[i] == 10) = false := by
        rw [beq_eq_false_iff_ne]
        intro e
        rw [e] at h
        exact h rfl
      rw [this]
      simp
theorem l29One_ev (l : List Blk) (p : Nat) (hp : p < l.length) (hf : BFit l[p]) : Ev (fun k => spec_l29One.f k l p) (blkOk l[p]) := by
  simp only [spec_l29One.f]
  refine Ev.to (l29One_l0 l p hp hf l[p].f2.size 0 (by omega)) ?_
  rfl
theorem l29Before_eq (l m : List Blk) (i j : Nat) (hi : i < l.length) (hj : j < m.length) : spec_l29Before.f l i m j = some (blkLt l[i] m[j]) := by
  unfold spec_l29Before.f blkLt
  rw [rdB_at l i hi, rdB_at m j hj]
  cases h : Op.bytesLess l[i].f0.toList m[j].f0.toList with
  | true => rw [if_pos rfl]; rfl
  | false =>
    rw [if_neg (by decide), Bool.false_or]
    by_cases e : l[i].f0.toList = m[j].f0.toList
    · rw [if_pos e, beq_iff_eq.2 e, Bool.true_and]
    · rw [if_neg e, beq_eq_false_iff_ne.2 e, Bool.false_and]
theorem contains_nl (s : ByteArray) : Go.Lib.contains s.data.toList (⟨#[10]⟩ : ByteArray).data.toList = s.data.toList.contains 10 := by
  rw [Go.Lib.contains_iff_indexByte]
  show decide (0 ≤ Go.Lib.index s.data.toList [10]) = _
  rw [Go.Lib.index_one]
theorem ValidBlock_ev (b : Blk) (hf : BFit b) : Ev (fun k => impl_ValidBlock.f k b.f0 b.f1 b.f2) (blkOk b) := by
  simp only [impl_ValidBlock.f, blkOk]
  refine Ev.bind (IsName_ev _ hf.1) ?_
  cases h0 : isNm b.f0 with
  | false => exact Ev.neg (by decide) (Ev.now _)
  | true =>
    refine Ev.pos rfl (Ev.bind (IsName_ev _ hf.2.1) ?_)
    cases h1 : isNm b.f1 with
    | false => exact Ev.neg (by decide) (Ev.now _)
    | true =>
      refine Ev.pos rfl ?_
      by_cases h2 : (b.f2.size : Int) ≤ 400
      · refine Ev.pos h2 ?_
        refine Ev.bind (a := b.f2.data.toList.contains 10) (Ev.const ?_) (Ev.to (Ev.now _) ?_)
        · unfold strings_Contains.f
          rw [if_pos (by omega), contains_nl]
        · rw [decide_eq_true (by omega : b.f2.size ≤ 400)]
          simp
      · exact Ev.neg h2 (Ev.to (Ev.now _) (by rw [decide_eq_false (by omega : ¬ b.f2.size ≤ 400)]; simp))
def cmpS (a b : List UInt8) : Int := if Op.bytesLess a b = true then -1 else if Op.bytesLess b a = true then 1 else 0
theorem bl_irr : ∀ a : List UInt8, Op.bytesLess a a = false
  | [] => rfl
  | x :: a => by
    unfold Op.bytesLess
    rw [bl_irr a]
    simp
theorem bl_tri (a b : List UInt8) : Op.bytesLess a b = true ∨ a = b ∨ Op.bytesLess b a = true := by
  have := bytesLess_total a b
  cases h1 : Op.bytesLess a b with
  | true => exact .inl rfl
  | false =>
    rw [h1, Bool.false_or] at this
    cases h2 : (a == b) with
    | true => exact .inr (.inl (beq_iff_eq.1 h2))
    | false => rw [h2] at this; exact .inr (.inr this.symm)
theorem bl_asym {a b : List UInt8} (h : Op.bytesLess a b = true) : Op.bytesLess b a = false := by
  have := bytesLess_total a b
  rw [h] at this
  exact this.symm
theorem Compare_eq (a b : ByteArray) : cmp_Compare_string.f a b = some (cmpS a.toList b.toList) := by
  unfold cmp_Compare_string.f cmp_isNaN_string.f cmpS
  simp only [Option.bind_some, bne_self_eq_false, Bool.false_eq_true, if_false]
  split
  · rfl
  · split <;> rfl
theorem Or_ev (x y : Int) : Ev (fun k => cmp_Or_int.f k [x, y]) (if x = 0 then y else x) := by
  simp only [cmp_Or_int.f]
  refine Ev.succ ?_
  simp only [cmp_Or_int.l0]
  refine Ev.pos (by simp) (Ev.pos (by omega) (Ev.pos (by simp) ?_))
  have e0 : rd [x, y] 0 = x := rfl
  rw [e0]
  by_cases h : x = 0
  · rw [if_pos h]
    refine Ev.pos h (Ev.succ ?_)
    have e1 : wrap64 (0 + 1) = 1 := by rw [w64 (by omega) (by omega)]; rfl
    have e2 : rd [x, y] 1 = y := rfl
    simp only [cmp_Or_int.l0, e1, e2]
    refine Ev.pos (by simp) (Ev.pos (by omega) (Ev.pos (by simp) ?_))
    by_cases h' : y = 0
    · refine Ev.pos h' (Ev.succ ?_)
      have e3 : wrap64 (1 + 1) = 2 := by rw [w64 (by omega) (by omega)]; rfl
      simp only [cmp_Or_int.l0, e3]
      exact Ev.neg (by simp) (Ev.to (Ev.now _) h'.symm)
    · exact Ev.neg h' (Ev.now _)
  · rw [if_neg h]
    exact Ev.neg h (Ev.now _)
def cmpB (a b : Blk) : Int := if cmpS a.f0.toList b.f0.toList = 0 then cmpS a.f1.toList b.f1.toList else cmpS a.f0.toList b.f0.toList
theorem compareBlocks_ev (a b : Blk) : Ev (fun k => impl_compareBlocks.f k a.f0 a.f1 a.f2 b.f0 b.f1 b.f2) (cmpB a b) := by
  simp only [impl_compareBlocks.f, Compare_eq, Option.bind_some]
  exact Ev.bind (Or_ev _ _) (Ev.now _)
theorem cmpS_neg (a b : List UInt8) : cmpS a b < 0 ↔ Op.bytesLess a b = true := by
  unfold cmpS
  constructor
  · intro h
    split at h
    · assumption
    · split at h <;> omega
  · intro h
    rw [if_pos h]
    decide
theorem cmpS_zero (a b : List UInt8) : cmpS a b = 0 ↔ a = b := by
  unfold cmpS
  constructor
  · intro h
    rcases bl_tri a b with h1 | h1 | h1
    · rw [if_pos h1] at h
      omega
    · exact h1
    · rw [if_neg (by rw [bl_asym h1]; decide), if_pos h1] at h
      omega
  · rintro rfl
    rw [bl_irr]
    decide
theorem cmpB_neg (a b : Blk) : cmpB a b < 0 ↔ blkLt a b = true := by
  unfold cmpB blkLt
  by_cases h : cmpS a.f0.toList b.f0.toList = 0
  · rw [if_pos h, cmpS_neg]
    have e := (cmpS_zero _ _).1 h
    rw [e, bl_irr]
    simp
  · rw [if_neg h, cmpS_neg]
    have e : a.f0.toList ≠ b.f0.toList := fun e => h ((cmpS_zero _ _).2 e)
    rw [beq_eq_false_iff_ne.2 e]
    simp
theorem cmpB_zero (a b : Blk) : cmpB a b = 0 ↔ a.f0 = b.f0 ∧ a.f1 = b.f1 := by
  unfold cmpB
  by_cases h : cmpS a.f0.toList b.f0.toList = 0
  · rw [if_pos h, cmpS_zero]
    have e := bytes_ext ((cmpS_zero _ _).1 h)
    exact ⟨fun h => ⟨e, bytes_ext h⟩, fun h => by rw [h.2]⟩
  · rw [if_neg h]
    exact ⟨fun h' => absurd h' h, fun h' => absurd ((cmpS_zero _ _).2 (by rw [h'.1])) h⟩
def okFromB (l : List Blk) : Nat → Nat → Bool
  | 0, _ => true
  | d + 1, i => (match l[i]? with | none => true | some b => blkOk b && (match i with | 0 => true | j + 1 => match l[j]? with | none => true | some a => blkLt a b)) && okFromB l d (i + 1)
def blksOk (l : List Blk) : Bool := okFromB l l.length 0 && decide (l.length ≤ 32)
theorem l29Ok_l0 (l : List Blk) (hl : l.length ≤ 9223372036854775807) (hf : ∀ b ∈ l, BFit b) : ∀ (d i : Nat), i + d = l.length → Ev (fun k => spec_l29Ok.l0 k l i) (okFromB l d i && decide (l.length ≤ 32)) := by
  intro d
  induction d with
  | zero =>
    intro i hi
    refine Ev.succ ?_
    simp only [spec_l29Ok.l0, okFromB]
    exact Ev.neg (by omega) (Ev.to (Ev.now _) (by rw [Bool.eq_iff_iff]; simp; omega))
  | succ d ih =>
    intro i hi
    have hlt : i < l.length := by omega
    refine Ev.succ ?_
    simp only [spec_l29Ok.l0, w64_succ hlt hl, okFromB]
    rw [List.getElem?_eq_getElem hlt]
    refine Ev.pos (by omega) (Ev.pos (by omega) (Ev.bind (l29One_ev l i hlt (hf _ (List.getElem_mem hlt))) ?_))
    cases h : blkOk l[i] with
    | false => exact Ev.neg (by decide) (Ev.to (Ev.now _) (by simp [h]))
    | true =>
      refine Ev.pos rfl ?_
      cases i with
      | zero => exact Ev.neg (by omega) (Ev.to (ih 1 (by omega)) (by simp [h]))
      | succ j =>
        have hw : wrap64 (((j + 1 : Nat) : Int) - 1) = (j : Int) := by rw [w64 (by omega) (by omega)]; omega
        have hj : j < l.length := by omega
        simp only [hw, l29Before_eq l l j (j + 1) hj hlt, Option.bind_some, List.getElem?_eq_getElem hj]
        refine Ev.pos (by omega) (Ev.pos (by omega) (Ev.pos (by omega) ?_))
        cases h2 : blkLt l[j] l[j + 1] with
        | true => exact Ev.pos rfl (Ev.to (ih (j + 1 + 1) (by omega)) (by simp [h]))
        | false => exact Ev.neg (by decide) (Ev.to (Ev.now _) (by simp))
theorem l29Ok_ev (l : List Blk) (hl : l.length ≤ 9223372036854775807) (hf : ∀ b ∈ l, BFit b) : Ev (fun k => spec_l29Ok.f k l) (blksOk l) := by
  simp only [spec_l29Ok.f]
  exact l29Ok_l0 l hl hf l.length 0 (by omega)
theorem ValidBlocks_l0 (l : List Blk) (hl : l.length ≤ 9223372036854775807) (hf : ∀ b ∈ l, BFit b) : ∀ (d i : Nat), i + d = l.length → Ev (fun k => impl_ValidBlocks.l0 k l l (l.length : Int) i) (okFromB l d i) := by
  intro d
  induction d with
  | zero =>
    intro i hi
    refine Ev.succ ?_
    simp only [impl_ValidBlocks.l0, okFromB]
    exact Ev.neg (by omega) (Ev.now _)
  | succ d ih =>
    intro i hi
    have hlt : i < l.length := by omega
    refine Ev.succ ?_
    simp only [impl_ValidBlocks.l0, w64_succ hlt hl, okFromB, rdB_at l i hlt]
    rw [List.getElem?_eq_getElem hlt]
    refine Ev.pos (by omega) (Ev.pos (by omega) (Ev.pos (by omega) (Ev.bind (ValidBlock_ev l[i] (hf _ (List.getElem_mem hlt))) ?_)))
    cases h : blkOk l[i] with
    | false => exact Ev.neg (by decide) (Ev.to (Ev.now _) (by simp [h]))
    | true =>
      refine Ev.pos rfl ?_
      cases i with
      | zero => exact Ev.neg (by omega) (Ev.to (ih 1 (by omega)) (by simp [h]))
      | succ j =>
        have hw : wrap64 (((j + 1 : Nat) : Int) - 1) = (j : Int) := by rw [w64 (by omega) (by omega)]; omega
        have hj : j < l.length := by omega
        simp only [hw, rdB_at l j hj, List.getElem?_eq_getElem hj]
        refine Ev.pos (by omega) (Ev.pos (by omega) (Ev.pos (by omega) (Ev.bind (compareBlocks_ev _ _) ?_)))
        cases h2 : blkLt l[j] l[j + 1] with
        | true => exact Ev.neg (by have := (cmpB_neg _ _).2 h2; omega) (Ev.to (ih (j + 1 + 1) (by omega)) (by simp [h]))
        | false => exact Ev.pos (Int.not_lt.1 fun h => by rw [(cmpB_neg _ _).1 h] at h2; exact absurd h2 (by decide)) (Ev.to (Ev.now _) (by simp))
theorem ValidBlocks_ev (l : List Blk) (hl : l.length ≤ 9223372036854775807) (hf : ∀ b ∈ l, BFit b) : Ev (fun k => impl_ValidBlocks.f k l) (blksOk l) := by
  simp only [impl_ValidBlocks.f, blksOk]
  by_cases h : (l.length : Int) > 32
  · exact Ev.pos h (Ev.to (Ev.now _) (by rw [decide_eq_false (by omega : ¬ l.length ≤ 32)]; simp))
  · exact Ev.neg h (Ev.to (ValidBlocks_l0 l hl hf l.length 0 (by omega)) (by rw [decide_eq_true (by omega : l.length ≤ 32)]; simp))
end Go.Proofs.Ytpdggpfobbkdnaa.A
end
section
namespace Go.Proofs.Ytpdggpfobbkdnaa.A
open Go.RowKit Go.Proofs.YtpdggpfobbkdnaaW.PrintWords Go.Proofs.YtpdggpfobbkdnaaW.PrintLast
abbrev LBk := S66
def convB (b : LBk) : Blk := ⟨b.f0, b.f1, b.f2⟩
def LFit (n : Nat) (b : LBk) : Prop := b.f0.size ≤ n ∧ b.f1.size ≤ n ∧ b.f2.size ≤ n
theorem rdL_at (l : List LBk) (i : Nat) (h : i < l.length) : rd_T66 l (i : Int) = l[i] := by
  simp [rd_T66, List.getD_eq_getElem?_getD, List.getElem?_eq_getElem h]
theorem szBlock_eq (b : LBk) (left : Int) (h : LFit 9223372036854775807 b) (h0 : 0 ≤ left) (h1 : left ≤ 1048576) :
    ∃ t, laws_szBlock.f b.f0 b.f1 b.f2 left = some t ∧ t ≤ 1048576 ∧ (0 ≤ t → LFit 1048576 b) ∧ (t < 0 → t = -1) := by
  obtain ⟨a, c, d⟩ := h
  unfold laws_szBlock.f
  rw [w64 (by omega) (by omega)]
  by_cases e1 : left - (b.f0.size : Int) < 0
  · exact ⟨-1, by rw [if_pos e1], by omega, fun h => by omega, fun _ => rfl⟩
  · rw [if_neg e1, w64 (by omega) (by omega)]
    by_cases e2 : left - (b.f0.size : Int) - (b.f1.size : Int) < 0
    · exact ⟨-1, by rw [if_pos e2], by omega, fun h => by omega, fun _ => rfl⟩
    · rw [if_neg e2, w64 (by omega) (by omega)]
      by_cases e3 : left - (b.f0.size : Int) - (b.f1.size : Int) - (b.f2.size : Int) < 0
      · exact ⟨-1, by rw [if_pos e3], by omega, fun h => by omega, fun _ => rfl⟩
      · exact ⟨_, by rw [if_neg e3], by omega, fun _ => ⟨by omega, by omega, by omega⟩, fun h => by omega⟩
theorem szBlockS_l0 (l : List LBk) (hl : l.length ≤ 9223372036854775807) (hs : ∀ z ∈ l, LFit 9223372036854775807 z) : ∀ (d i : Nat) (left : Int), i + d = l.length → 0 ≤ left → left ≤ 1048576 →
    ∃ t, Ev (fun k => laws_szBlockS.l0 k l left i) t ∧ t ≤ 1048576 ∧ (0 ≤ t → ∀ j (h : j < l.length), i ≤ j → LFit 1048576 l[j]) := by
  intro d
  induction d with
  | zero =>
    intro i left hi h0 h1
    refine ⟨left, Ev.succ ?_, h1, fun _ j h hj => absurd h (by omega)⟩
    simp only [laws_szBlockS.l0]
    exact Ev.neg (by omega) (Ev.now _)
  | succ d ih =>
    intro i left hi h0 h1
    have hlt : i < l.length := by omega
    obtain ⟨t, ht, ht1, htf, htn⟩ := szBlock_eq l[i] left (hs _ (List.getElem_mem hlt)) h0 h1
    by_cases hn : t < 0
    · refine ⟨-1, Ev.succ ?_, by omega, fun h => absurd h (by omega)⟩
      simp only [laws_szBlockS.l0, rdL_at l i hlt, ht, Option.bind_some]
      exact Ev.pos (by omega) (Ev.pos (by omega) (Ev.pos hn (Ev.now _)))
    · obtain ⟨t', ht', ht1', hall⟩ := ih (i + 1) t (by omega) (by omega) ht1
      refine ⟨t', Ev.succ ?_, ht1', fun h j hj hij => ?_⟩
      · simp only [laws_szBlockS.l0, rdL_at l i hlt, ht, Option.bind_some, w64_succ hlt hl]
        exact Ev.pos (by omega) (Ev.pos (by omega) (Ev.neg hn ht'))
      · by_cases e : i = j
        · subst e
          exact htf (by omega)
        · exact hall h j hj (by omega)
theorem szBlockS_from (l : List LBk) (left : Int) (h0 : 0 ≤ left) (h1 : left ≤ 1048576) (hl : l.length ≤ 9223372036854775807) (hs : ∀ z ∈ l, LFit 9223372036854775807 z) :
    ∃ t, Ev (fun k => laws_szBlockS.f k l left) t ∧ t ≤ 1048576 ∧ (0 ≤ t → l.length ≤ 1048576 ∧ ∀ z ∈ l, LFit 1048576 z) := by
  have hw : wrap64 (left - (l.length : Int)) = left - (l.length : Int) := w64 (by omega) (by omega)
  by_cases hn : left - (l.length : Int) < 0
  · refine ⟨-1, ?_, by omega, fun h => absurd h (by omega)⟩
    simp only [laws_szBlockS.f, hw]
    exact Ev.pos hn (Ev.now _)
  · obtain ⟨t, ht, ht1, hall⟩ := szBlockS_l0 l hl hs l.length 0 (left - (l.length : Int)) (by omega) (by omega) (by omega)
    refine ⟨t, ?_, ht1, fun h => ⟨by omega, fun z hz => ?_⟩⟩
    · simp only [laws_szBlockS.f, hw]
      exact Ev.neg hn ht
    · obtain ⟨j, hj, rfl⟩ := List.getElem_of_mem hz
      exact hall h j hj (by omega)
theorem szBlockS_ev (l : List LBk) (hl : l.length ≤ maxLen) (hs : ∀ z ∈ l, LFit maxLen z) :
    ∃ t, Ev (fun k => laws_szBlockS.f k l 1048576) t ∧ t ≤ 1048576 ∧ (0 ≤ t → l.length ≤ 1048576 ∧ ∀ z ∈ l, LFit 1048576 z) := szBlockS_from l 1048576 (by omega) (by omega) hl hs
theorem toBlockS_l0 (l : List LBk) (hl : l.length ≤ 9223372036854775807) : ∀ (d i : Nat) (x : List Blk), i + d = l.length → x.length = l.length → (∀ j, j < i → x[j]? = (l.map convB)[j]?) → Ev (fun k => laws_toBlockS.l0 k l x i) (l.map convB) := by
  intro d
  induction d with
  | zero =>
    intro i x hi hx hp
    refine Ev.succ ?_
    simp only [laws_toBlockS.l0]
    refine Ev.neg (by omega) (Ev.to (Ev.now x) ?_)
    refine List.ext_getElem? fun j => ?_
    by_cases hj : j < i
    · exact hp j hj
    · rw [List.getElem?_eq_none (by omega), List.getElem?_eq_none (by rw [List.length_map]; omega)]
  | succ d ih =>
    intro i x hi hx hp
    have hlt : i < l.length := by omega
    refine Ev.succ ?_
    simp only [laws_toBlockS.l0, laws_toBlock.f, Option.bind_some, rdL_at l i hlt, w64_succ hlt hl]
    refine Ev.pos (by omega) (Ev.pos (by omega) (Ev.pos (by omega) (ih (i + 1) _ (by omega) (by simpa using hx) fun j hj => ?_)))
    rw [Int.toNat_natCast]
    by_cases e : i = j
    · subst e
      rw [List.getElem?_set_self (by omega), List.getElem?_map, List.getElem?_eq_getElem hlt]
      rfl
    · rw [List.getElem?_set_ne e]
      exact hp j (by omega)
theorem toBlockS_ev (l : List LBk) (hl : l.length ≤ 1048576) : Ev (fun k => laws_toBlockS.f k l) (l.map convB) := by
  simp only [laws_toBlockS.f]
  exact Ev.pos (by omega) (Ev.pos (by omega) (toBlockS_l0 l (by omega) l.length 0 _ (by omega) (by simp) (fun j hj => absurd hj (by omega))))
theorem eqBlock_refl (a b c : ByteArray) : laws_eqBlock.f a b c a b c = some true := by simp [laws_eqBlock.f]
theorem eqBlockS_l0 (l : List Blk) (hl : l.length ≤ 9223372036854775807) : ∀ (d i : Nat), i + d = l.length → Ev (fun k => laws_eqBlockS.l0 k l l i) true := by
  intro d
  induction d with
  | zero =>
    intro i hi
    refine Ev.succ ?_
    simp only [laws_eqBlockS.l0]
    exact Ev.neg (by omega) (Ev.now _)
  | succ d ih =>
    intro i hi
    have hlt : i < l.length := by omega
    refine Ev.succ ?_
    simp only [laws_eqBlockS.l0, w64_succ hlt hl, eqBlock_refl, Option.bind_some]
    exact Ev.pos (by omega) (Ev.pos (by omega) (Ev.pos (by omega) (Ev.pos trivial (ih (i + 1) (by omega)))))
theorem eqBlockS_ev (l : List Blk) (hl : l.length ≤ 9223372036854775807) : Ev (fun k => laws_eqBlockS.f k l l) true := by
  simp only [laws_eqBlockS.f]
  exact Ev.pos trivial (eqBlockS_l0 l hl l.length 0 (by omega))
theorem fit_map (l : List LBk) (n : Nat) (hn : n ≤ 9223372036854775807) (h : ∀ z ∈ l, LFit n z) : ∀ b ∈ l.map convB, BFit b := by
  intro b hb
  obtain ⟨z, hz, rfl⟩ := List.mem_map.1 hb
  obtain ⟨a, c, d⟩ := h z hz
  exact ⟨Nat.le_trans a hn, Nat.le_trans c hn, Nat.le_trans d hn⟩
end Go.Proofs.Ytpdggpfobbkdnaa.A
end
section
namespace Go.Proofs.Ytpdggpfobbkdnaa.A
open Go.RowKit Go.Proofs.YtpdggpfobbkdnaaW.PrintWords Go.Proofs.YtpdggpfobbkdnaaW.PrintLast Go.Proofs.YtpdggpfobbkdnaaW.PrintMore
attribute [local go_sem] max2_int min2_int max_two min_two max_three min_three max_four min_four   -- for this text's walks alone
set_option linter.unusedVariables false
set_option linter.unusedSimpArgs false
def laws_szStringS.l0 : Nat → List ByteArray → Int → Int → Option (Int)
  | 0, _, _, _ => none
  | k + 1, x0, x1, x5 => if x5 < (x0.length : Int) then (if 0 ≤ x5 then (if (wrap64 (x1 - ((rdOf ByteArray.empty x0 x5).size : Int))) < 0 then (some (-1)) else (laws_szStringS.l0 k x0 (wrap64 (x1 - ((rdOf ByteArray.empty x0 x5).size : Int))) (wrap64 (x5 + 1)))) else (none)) else (some x1)
def laws_szStringS.f (k : Nat) (l0 : List ByteArray) (a1 : Int) : Option (Int) := if (wrap64 (a1 - (l0.length : Int))) < 0 then (some (-1)) else (laws_szStringS.l0 k l0 (wrap64 (a1 - (l0.length : Int))) 0)
theorem laws_szStringS.mono_l : ∀ k, (∀ y0 y1 y2, LeO (laws_szStringS.l0 k y0 y1 y2) (laws_szStringS.l0 (k + 1) y0 y1 y2))
  | 0 => fun _ _ _ r h => by simp [laws_szStringS.l0] at h
  | k + 1 => by
    have ih0 := laws_szStringS.mono_l k
    · intro y0 y1 y2
      unfold laws_szStringS.l0
      repeat' first
      | (with_reducible exact ih0 _ _ _)
      | (with_reducible exact LeO.refl _)
      | (with_reducible exact LeO.none _)
      | (with_reducible refine LeO.ite ?_ ?_)
      | (with_reducible refine LeO.bind ?_ (fun _ => ?_))
      | exact ih0 _ _ _
      | exact LeO.none _
      | refine LeO.ite ?_ ?_
      | refine LeO.bind ?_ (fun _ => ?_)
theorem laws_szStringS.mono : ∀ a0 a1 k, LeO (laws_szStringS.f k a0 a1) (laws_szStringS.f (k + 1) a0 a1) := by
  intro a0 a1 k
  have ih0 := laws_szStringS.mono_l k
  unfold laws_szStringS.f
  repeat' first
      | (with_reducible exact ih0 _ _ _)
      | (with_reducible exact LeO.refl _)
      | (with_reducible exact LeO.none _)
      | (with_reducible refine LeO.ite ?_ ?_)
      | (with_reducible refine LeO.bind ?_ (fun _ => ?_))
      | exact ih0 _ _ _
      | exact LeO.none _
      | refine LeO.ite ?_ ?_
      | refine LeO.bind ?_ (fun _ => ?_)
set_option maxHeartbeats 8000000 in
set_option maxRecDepth 100000 in
theorem laws_szStringS.calls (k : Nat) (A0 : Option Addr) (c0 : Nat) (l0 : List ByteArray) (a1 : Int) (r : Int) (w : World) (hr0 : Kd.C Kd.string w A0 l0.length l0) (hc0 : l0.length ≤ c0) (h : laws_szStringS.f k l0 a1 = some r) :
    Calls Try.prog 14 #[.slice A0 l0.length c0, .int .i64 a1] w fun e w' => e = .returned (.int .i64 r) ∧ Drawn0 w w' := by
  have HR0 := Aside0.mk hr0
  have HC0 := Aside0.mk hc0
  clear hr0 hc0
  have H : (if (wrap64 (a1 - (l0.length : Int))) < 0 then (some (-1)) else (laws_szStringS.l0 k l0 (wrap64 (a1 - (l0.length : Int))) 0)) = some r := h
  clear h
  by_cases c3 : (wrap64 (a1 - (l0.length : Int))) < 0
  · rw [if_pos c3] at H
    have c3b0 : decide ((wrap64 (a1 - (l0.length : Int))) < 0) = true := decide_eq_true c3
    clear c3
    obtain rfl := Option.some.inj H
    go_enter Try.func14, Try.ntmps14
    go_wp2
    go_ret
    exact ⟨by first | rfl | (simp; done) | (simp [*]; done), by repeat (first | exact Drawn0.refl _ | apply Drawn0.step)⟩
  · rw [if_neg c3] at H
    have c3b0 : decide ((wrap64 (a1 - (l0.length : Int))) < 0) = false := decide_eq_false c3
    clear c3
    have H' := Aside0.mk H
    clear H
    go_enter Try.func14, Try.ntmps14
    go_wp2
    go_loopg [1, 5] k (fun kq v1 v5 w' => ∃ (x1_1 : Int) (x5_1 : Int), v1 = .int .i64 x1_1 ∧ v5 = .int .i64 x5_1 ∧ Aside0 (laws_szStringS.l0 kq l0 x1_1 x5_1 = some r) ∧ Aside0 (kq ≤ k) ∧ Drawn0 w w')
    case atStart => exact ⟨(wrap64 (a1 - (l0.length : Int))), (0), (by first | rfl | (simp; done) | (simp [*]; done)), (by first | rfl | (simp; done) | (simp [*]; done)), H', ⟨Nat.le_refl _⟩, by repeat (first | exact Drawn0.refl _ | apply Drawn0.step)⟩
    case round =>
      clear H'
      try clear c1
      try clear p2
      try clear c3
      try clear c3b0
      obtain ⟨x1_1, x5_1, rfl, rfl, HA, HK1, ⟨m1, rfl⟩⟩ := hrel
      cases gk with
      | zero => exact absurd HA.out (by simp [laws_szStringS.l0])
      | succ k1 =>
        have H := HA.out
        clear HA
        simp only [laws_szStringS.l0] at H
        by_cases c4 : x5_1 < (l0.length : Int)
        · rw [if_pos c4] at H
          have c4b0 : decide (x5_1 < (l0.length : Int)) = true := decide_eq_true c4
          clear c4
          by_cases c5 : 0 ≤ x5_1
          · rw [if_pos c5] at H
            have c5b0 : decide (0 ≤ x5_1) = true := decide_eq_true c5
            clear c5
            by_cases c6 : (wrap64 (x1_1 - ((rdOf ByteArray.empty l0 x5_1).size : Int))) < 0
            · rw [if_pos c6] at H
              have c6b0 : decide ((wrap64 (x1_1 - ((rdOf ByteArray.empty l0 x5_1).size : Int))) < 0) = true := decide_eq_true c6
              clear c6
              obtain rfl := Option.some.inj H
              have p101 : 0 ≤ (x5_1 : Int) := of_decide_eq_true (by first | (with_reducible assumption) | assumption)
              have q101 : x5_1 < (l0.length : Int) := of_decide_eq_true (by first | (with_reducible assumption) | assumption)
              obtain ⟨ad101, e101, hx101_0⟩ := Kd.at_string HR0.out x5_1 p101 q101
              cases e101
              replace p101 := eq_true p101
              replace q101 := eq_true q101
              go_wp2
              go_ret
              exact ⟨by first | rfl | (simp; done) | (simp [*]; done), by repeat (first | exact Drawn0.refl _ | apply Drawn0.step)⟩
            · rw [if_neg c6] at H
              have c6b0 : decide ((wrap64 (x1_1 - ((rdOf ByteArray.empty l0 x5_1).size : Int))) < 0) = false := decide_eq_false c6
              clear c6
              have H' := Aside0.mk H
              clear H
              have p101 : 0 ≤ (x5_1 : Int) := of_decide_eq_true (by first | (with_reducible assumption) | assumption)
              have q101 : x5_1 < (l0.length : Int) := of_decide_eq_true (by first | (with_reducible assumption) | assumption)
              obtain ⟨ad101, e101, hx101_0⟩ := Kd.at_string HR0.out x5_1 p101 q101
              cases e101
              replace p101 := eq_true p101
              replace q101 := eq_true q101
              go_wp2
              go_roundg k1
              case measure => have := HK1.out; omega
              case rel => exact ⟨(wrap64 (x1_1 - ((rdOf ByteArray.empty l0 x5_1).size : Int))), (wrap64 (x5_1 + 1)), (by first | rfl | (simp; done) | (simp [*]; done)), (by first | rfl | (simp; done) | (simp [*]; done)), H', ⟨by have := HK1.out; omega⟩, by repeat (first | exact Drawn0.refl _ | apply Drawn0.step)⟩
          · rw [if_neg c5] at H
            exact absurd H (by simp)
        · rw [if_neg c4] at H
          have c4b0 : decide (x5_1 < (l0.length : Int)) = false := decide_eq_false c4
          clear c4
          obtain rfl := Option.some.inj H
          go_wp2
          go_ret
          exact ⟨by first | rfl | (simp; done) | (simp [*]; done), by repeat (first | exact Drawn0.refl _ | apply Drawn0.step)⟩
end Go.Proofs.Ytpdggpfobbkdnaa.A
end
section
namespace Go.Proofs.Ytpdggpfobbkdnaa.A
open Go.RowKit Go.Proofs.YtpdggpfobbkdnaaW.PrintWords Go.Proofs.YtpdggpfobbkdnaaW.PrintLast Go.Proofs.YtpdggpfobbkdnaaW.PrintMore
attribute [local go_sem] max2_int min2_int max_two min_two max_three min_three max_four min_four   -- for this text's walks alone
set_option linter.unusedVariables false
set_option linter.unusedSimpArgs false
def laws_toStringS.l0 : Nat → List ByteArray → List ByteArray → Int → Option (List ByteArray)
  | 0, _, _, _ => none
  | k + 1, x0, x3, x4 => if x4 < (x0.length : Int) then (if 0 ≤ x4 then (if x4 < (x3.length : Int) then (laws_toStringS.l0 k x0 (x3.set (x4 : Int).toNat (rdOf ByteArray.empty x0 x4)) (wrap64 (x4 + 1))) else (none)) else (none)) else (some x3)
def laws_toStringS.f (k : Nat) (l0 : List ByteArray) : Option (List ByteArray) := if 0 ≤ (l0.length : Int) then (if ((l0.length : Int) : Int).toNat ≤ 17592186044416 then (laws_toStringS.l0 k l0 (List.replicate ((l0.length : Int) : Int).toNat (⟨#[]⟩ : ByteArray)) 0) else (none)) else (none)
theorem laws_toStringS.mono_l : ∀ k, (∀ y0 y1 y2, LeO (laws_toStringS.l0 k y0 y1 y2) (laws_toStringS.l0 (k + 1) y0 y1 y2))
  | 0 => fun _ _ _ r h => by simp [laws_toStringS.l0] at h
  | k + 1 => by
    have ih0 := laws_toStringS.mono_l k
    · intro y0 y1 y2
      unfold laws_toStringS.l0
      repeat' first
      | (with_reducible exact ih0 _ _ _)
      | (with_reducible exact LeO.refl _)
      | (with_reducible exact LeO.none _)
      | (with_reducible refine LeO.ite ?_ ?_)
      | (with_reducible refine LeO.bind ?_ (fun _ => ?_))
      | exact ih0 _ _ _
      | exact LeO.none _
      | refine LeO.ite ?_ ?_
      | refine LeO.bind ?_ (fun _ => ?_)
theorem laws_toStringS.mono : ∀ a0 k, LeO (laws_toStringS.f k a0) (laws_toStringS.f (k + 1) a0) := by
  intro a0 k
  have ih0 := laws_toStringS.mono_l k
  unfold laws_toStringS.f
  repeat' first
      | (with_reducible exact ih0 _ _ _)
      | (with_reducible exact LeO.refl _)
      | (with_reducible exact LeO.none _)
      | (with_reducible refine LeO.ite ?_ ?_)
      | (with_reducible refine LeO.bind ?_ (fun _ => ?_))
      | exact ih0 _ _ _
      | exact LeO.none _
      | refine LeO.ite ?_ ?_
      | refine LeO.bind ?_ (fun _ => ?_)
set_option maxHeartbeats 8000000 in
set_option maxRecDepth 100000 in
theorem laws_toStringS.calls (k : Nat) (A0 : Option Addr) (c0 : Nat) (l0 : List ByteArray) (r : List ByteArray) (w : World) (hr0 : Kd.C Kd.string w A0 l0.length l0) (hc0 : l0.length ≤ c0) (h : laws_toStringS.f k l0 = some r) :
    Calls Try.prog 16 #[.slice A0 l0.length c0] w fun e w' => ∃ v0_ : Value, e = .returned (v0_) ∧ Kd.R Kd.string 9 w' w.heap.size (fun _ => True) v0_ r ∧ Below w.heap.size w w' := by
  have HR0 := Aside0.mk hr0
  have HC0 := Aside0.mk hc0
  clear hr0 hc0
  have HB := Aside0.mk (Below.refl w.heap.size w)
  have H : (if 0 ≤ (l0.length : Int) then (if ((l0.length : Int) : Int).toNat ≤ 17592186044416 then (laws_toStringS.l0 k l0 (List.replicate ((l0.length : Int) : Int).toNat (⟨#[]⟩ : ByteArray)) 0) else (none)) else (none)) = some r := h
  clear h
  by_cases c2 : 0 ≤ (l0.length : Int)
  · rw [if_pos c2] at H
    have c2b0 := eq_true c2
    have c2b1 : decide (0 ≤ (l0.length : Int)) = true := decide_eq_true c2
    clear c2
    by_cases c3 : ((l0.length : Int) : Int).toNat ≤ 17592186044416
    · rw [if_pos c3] at H
      have c3b0 := eq_true c3
      have c3b1 : decide (((l0.length : Int) : Int).toNat ≤ 17592186044416) = true := decide_eq_true c3
      clear c3
      obtain ⟨y101, hy101⟩ : ∃ y_ : List ByteArray, y_ = (List.replicate ((l0.length : Int) : Int).toNat (⟨#[]⟩ : ByteArray)) := ⟨_, rfl⟩
      replace H : (laws_toStringS.l0 k l0 y101 0) = some r := by first | (rw [hy101]; with_reducible exact H) | (have H2_ := (Option.bind_some _ _).symm.trans H; rw [hy101]; with_reducible exact H2_) | (have H2_ := (Option.bind_some _ _).symm.trans H; with_reducible exact H2_) | with_reducible exact H | (rw [hy101]; exact H) | exact H
      have Ny101 := Aside0.mk hy101
      clear hy101
      have H' := Aside0.mk H
      clear H
      go_enter Try.func16, Try.ntmps16
      go_wp2_with (first | ((with_reducible refine gate_dst (N := 7) rfl ?_); refine Kd.R_make Kd.string _ 9 rfl (N := 7) rfl 22 _ _ rfl (l0.length : Int) rfl rfl Try.underlying22 (.string ⟨#[]⟩) 16 info9 rfl (by decide) (by omega) (⟨#[]⟩ : ByteArray) (ok := fun _ => True) (okp := fun _ => True) rfl (fun _ hk => hk) trivial (of_decide_eq_true (by first | (with_reducible assumption) | assumption)) (Nat.le_trans (Nat.mul_le_mul_right _ (of_decide_eq_true (by first | (with_reducible assumption) | assumption) : (l0.length : Int).toNat ≤ 17592186044416)) (by omega)) (Below.refl _ _) (Nat.le_refl _) ?_; intro v102 w4 ho5 hb hg_ hnew_; clear hg_ hnew_; (first | rw [← Ny101.out] at ho5 | (simp only [Int.reduceToNat] at ho5; rw [← Ny101.out] at ho5)); have n0_ := Aside0.mk (Kd.R_lower ho5 (below_size (by repeat (first | (with_reducible first | exact HB.out | apply below_alloc | apply pw_below_drewN | apply below_drew1) | exact HB.out)))); have n1_ := Aside0.mk (below_step (by repeat (first | (with_reducible first | exact HB.out | apply below_alloc | apply pw_below_drewN | apply below_drew1) | exact HB.out)) hb); clear HB; have HO103 := n0_; have HB := n1_; clear n0_ n1_; clear hb ho5))
      go_loopg [4] k (fun kq v4 w' => ∃ (x3_1 : List ByteArray) (x4_1 : Int), v4 = .int .i64 x4_1 ∧ Aside0 (laws_toStringS.l0 kq l0 x3_1 x4_1 = some r) ∧ Aside0 (kq ≤ k) ∧ Aside0 (Kd.R Kd.string 9 w' w.heap.size (fun _ => True) v102 x3_1) ∧ Aside0 (Below w.heap.size w w'))
      case atStart => exact ⟨(y101), (0), (by first | rfl | (simp; done) | (simp [*]; done)), H', ⟨Nat.le_refl _⟩, ⟨by (with_reducible repeat (first | apply Kd.R_alloc | apply Kd.R_drewN | apply Kd.R_drew)); exact HO103.out⟩, ⟨by repeat (first | (with_reducible first | exact HB.out | apply below_alloc | apply pw_below_drewN | apply below_drew1) | exact HB.out)⟩⟩
      case round =>
        clear H'
        try clear c1
        try clear c2
        try clear c2b0
        try clear c2b1
        try clear p2
        try clear c3
        try clear c3b0
        try clear c3b1
        obtain ⟨x3_1, x4_1, rfl, HA, HK1, HO_3, HB⟩ := hrel
        cases gk with
        | zero => exact absurd HA.out (by simp [laws_toStringS.l0])
        | succ k1 =>
          have H := HA.out
          clear HA
          simp only [laws_toStringS.l0] at H
          by_cases c6 : x4_1 < (l0.length : Int)
          · rw [if_pos c6] at H
            have c6b0 : decide (x4_1 < (l0.length : Int)) = true := decide_eq_true c6
            clear c6
            by_cases c7 : 0 ≤ x4_1
            · rw [if_pos c7] at H
              have c7b0 : decide (0 ≤ x4_1) = true := decide_eq_true c7
              clear c7
              by_cases c8 : x4_1 < (x3_1.length : Int)
              · rw [if_pos c8] at H
                have c8b0 : decide (x4_1 < (x3_1.length : Int)) = true := decide_eq_true c8
                clear c8
                obtain ⟨y105, hy105⟩ : ∃ y_ : List ByteArray, y_ = (x3_1.set (x4_1 : Int).toNat (rdOf ByteArray.empty l0 x4_1)) := ⟨_, rfl⟩
                replace H : (laws_toStringS.l0 k1 l0 y105 (wrap64 (x4_1 + 1))) = some r := by first | (rw [hy105]; with_reducible exact H) | (have H2_ := (Option.bind_some _ _).symm.trans H; rw [hy105]; with_reducible exact H2_) | (have H2_ := (Option.bind_some _ _).symm.trans H; with_reducible exact H2_) | with_reducible exact H | (rw [hy105]; exact H) | exact H
                have Ny105 := Aside0.mk hy105
                clear hy105
                have H' := Aside0.mk H
                clear H
                have p104 : 0 ≤ (x4_1 : Int) := of_decide_eq_true (by first | (with_reducible assumption) | assumption)
                have q104 : x4_1 < (l0.length : Int) := of_decide_eq_true (by first | (with_reducible assumption) | assumption)
                obtain ⟨ad104, e104, hx104_0⟩ := Kd.at_string HR0.out x4_1 p104 q104
                cases e104
                replace hx104_0 := (HB.out.cell (World.block_lt_of_cell? w _ hx104_0)).trans hx104_0
                replace p104 := eq_true p104
                replace q104 := eq_true q104
                have p9 : 0 ≤ (x4_1 : Int) := of_decide_eq_true (by first | (with_reducible assumption) | assumption)
                have q9 : (x4_1 : Int) < ((x3_1.length : Int) : Int) := of_decide_eq_true (by first | (with_reducible assumption) | assumption)
                obtain ⟨go9, co9, eo9, gb9, gl9, cl9, HG9⟩ := Kd.R_form HO_3.out (by omega)
                (first | cases eo9 | (injection eo9 with ea_ en_ ec_; (first | subst ea_ | (injection ea_ with ea_; subst ea_)); subst ec_; clear en_))
                have GB9 := Aside0.mk gb9
                have GG9 := Aside0.mk HG9
                clear gb9 gl9 HG9
                obtain ⟨hx9_0, hf9_0⟩ := Kd.R_celln (⟨#[]⟩ : ByteArray) HO_3.out (x4_1 : Int) p9 q9
                replace p9 := eq_true p9
                replace q9 := eq_true q9
                have HP10 := Kd.R_putg HO_3.out (x4_1 : Int) (rdOf ByteArray.empty l0 x4_1)
                go_wp2_with (first | ((with_reducible refine gate_store (t := 9) (p := 20) rfl ?_); refine store_event (t := 9) (p := 20) (v := ?vo_w11) (w1 := (wr.setCell ⟨go9, (x4_1 : Int).toNat, none⟩ (.string (rdOf ByteArray.empty l0 x4_1)))) ?hg ?ho ?hn ?hr ?_; (case ho => rfl); (case hg => rfl); (case hn => rfl); (case hr => first | (go_simp; done) | (go_simp; rfl)); intro w11 hw; have hg : wr.grownBy w11 (some go9) := (by rw [hw]; exact HP10.2); have hp_ : Kd.R Kd.string 9 w11 w.heap.size (fun _ => True) (.slice (some ⟨go9, 0, none⟩) x3_1.length co9) y105 := (by rw [hw, Ny105.out]; exact HP10.1); clear HP10; have n0_ := Aside0.mk (hp_); have n1_ := Aside0.mk ((by rw [hw]; exact below_set (HB.out) GB9.out : Below w.heap.size w w11)); clear HO_3; clear HB; have HO_3 := n0_; have HB := n1_; clear n0_ n1_; clear hg hw hp_))
                go_roundg k1
                case measure => have := HK1.out; omega
                case rel => exact ⟨(y105), (wrap64 (x4_1 + 1)), (by first | rfl | (simp; done) | (simp [*]; done)), H', ⟨by have := HK1.out; omega⟩, ⟨by (with_reducible repeat (first | apply Kd.R_alloc | apply Kd.R_drewN | apply Kd.R_drew)); exact HO_3.out⟩, ⟨by repeat (first | (with_reducible first | exact HB.out | apply below_alloc | apply pw_below_drewN | apply below_drew1) | exact HB.out)⟩⟩
              · rw [if_neg c8] at H
                exact absurd H (by simp)
            · rw [if_neg c7] at H
              exact absurd H (by simp)
          · rw [if_neg c6] at H
            have c6b0 : decide (x4_1 < (l0.length : Int)) = false := decide_eq_false c6
            clear c6
            obtain rfl := Option.some.inj H
            go_wp2
            go_ret
            exact ⟨_, by first | rfl | (simp [errW_none, errW_some] <;> rfl) | (simp [*, errW_none, errW_some] <;> rfl), by (with_reducible repeat (first | apply Kd.R_alloc | apply Kd.R_drewN | apply Kd.R_drew)); exact HO_3.out, by repeat (first | (with_reducible first | exact HB.out | apply below_alloc | apply pw_below_drewN | apply below_drew1) | exact HB.out)⟩
    · rw [if_neg c3] at H
      exact absurd H (by simp)
  · rw [if_neg c2] at H
    exact absurd H (by simp)
end Go.Proofs.Ytpdggpfobbkdnaa.A
end
section
namespace Go.Proofs.Ytpdggpfobbkdnaa.A
open Go.RowKit Go.Proofs.YtpdggpfobbkdnaaW.PrintWords Go.Proofs.YtpdggpfobbkdnaaW.PrintLast Go.Proofs.YtpdggpfobbkdnaaW.PrintMore
attribute [local go_sem] max2_int min2_int max_two min_two max_three min_three max_four min_four   -- for this text's walks alone
set_option linter.unusedVariables false
set_option linter.unusedSimpArgs false
def laws_eqStringS.l0 : Nat → List ByteArray → List ByteArray → Int → Option (Bool)
  | 0, _, _, _ => none
  | k + 1, x0, x1, x5 => if x5 < (x0.length : Int) then (if 0 ≤ x5 then (if x5 < (x1.length : Int) then (if (rdOf ByteArray.empty x0 x5).toList = (rdOf ByteArray.empty x1 x5).toList then (laws_eqStringS.l0 k x0 x1 (wrap64 (x5 + 1))) else (some false)) else (none)) else (none)) else (some true)
def laws_eqStringS.f (k : Nat) (l0 : List ByteArray) (l1 : List ByteArray) : Option (Bool) := if (l0.length : Int) = (l1.length : Int) then (laws_eqStringS.l0 k l0 l1 0) else (some false)
theorem laws_eqStringS.mono_l : ∀ k, (∀ y0 y1 y2, LeO (laws_eqStringS.l0 k y0 y1 y2) (laws_eqStringS.l0 (k + 1) y0 y1 y2))
  | 0 => fun _ _ _ r h => by simp [laws_eqStringS.l0] at h
  | k + 1 => by
    have ih0 := laws_eqStringS.mono_l k
    · intro y0 y1 y2
      unfold laws_eqStringS.l0
      repeat' first
      | (with_reducible exact ih0 _ _ _)
      | (with_reducible exact LeO.refl _)
      | (with_reducible exact LeO.none _)
      | (with_reducible refine LeO.ite ?_ ?_)
      | (with_reducible refine LeO.bind ?_ (fun _ => ?_))
      | exact ih0 _ _ _
      | exact LeO.none _
      | refine LeO.ite ?_ ?_
      | refine LeO.bind ?_ (fun _ => ?_)
theorem laws_eqStringS.mono : ∀ a0 a1 k, LeO (laws_eqStringS.f k a0 a1) (laws_eqStringS.f (k + 1) a0 a1) := by
  intro a0 a1 k
  have ih0 := laws_eqStringS.mono_l k
  unfold laws_eqStringS.f
  repeat' first
      | (with_reducible exact ih0 _ _ _)
      | (with_reducible exact LeO.refl _)
      | (with_reducible exact LeO.none _)
      | (with_reducible refine LeO.ite ?_ ?_)
      | (with_reducible refine LeO.bind ?_ (fun _ => ?_))
      | exact ih0 _ _ _
      | exact LeO.none _
      | refine LeO.ite ?_ ?_
      | refine LeO.bind ?_ (fun _ => ?_)
set_option maxHeartbeats 8000000 in
set_option maxRecDepth 100000 in
theorem laws_eqStringS.calls (k : Nat) (A0 : Option Addr) (c0 : Nat) (l0 : List ByteArray) (A1 : Option Addr) (c1 : Nat) (l1 : List ByteArray) (r : Bool) (w : World) (hr0 : Kd.C Kd.string w A0 l0.length l0) (hc0 : l0.length ≤ c0) (hr1 : Kd.C Kd.string w A1 l1.length l1) (hc1 : l1.length ≤ c1) (h : laws_eqStringS.f k l0 l1 = some r) :
    Calls Try.prog 19 #[.slice A0 l0.length c0, .slice A1 l1.length c1] w fun e w' => e = .returned (.bool r) ∧ Drawn0 w w' := by
  have HR0 := Aside0.mk hr0
  have HC0 := Aside0.mk hc0
  clear hr0 hc0
  have HR1 := Aside0.mk hr1
  have HC1 := Aside0.mk hc1
  clear hr1 hc1
  have H : (if (l0.length : Int) = (l1.length : Int) then (laws_eqStringS.l0 k l0 l1 0) else (some false)) = some r := h
  clear h
  by_cases c3 : (l0.length : Int) = (l1.length : Int)
  · rw [if_pos c3] at H
    have c3b0 : ((l0.length : Int) == (l1.length : Int)) = true := beq_iff_eq.mpr c3
    have c3b1 : ((l0.length : Int) != (l1.length : Int)) = false := bne_eq_false_iff_eq.mpr c3
    have c3b2 : (l0.length == l1.length) = true := by first | simpa using c3 | (simp at c3 ⊢; omega)
    clear c3
    have H' := Aside0.mk H
    clear H
    go_enter Try.func19, Try.ntmps19
    go_wp2
    repeat (go_quiet (fail); try go_wp2)
    go_loopg [5] k (fun kq v5 w' => ∃ (x5_1 : Int), v5 = .int .i64 x5_1 ∧ Aside0 (laws_eqStringS.l0 kq l0 l1 x5_1 = some r) ∧ Aside0 (kq ≤ k) ∧ Drawn0 w w')
    case atStart => exact ⟨(0), (by first | rfl | (simp; done) | (simp [*]; done)), H', ⟨Nat.le_refl _⟩, by repeat (first | exact Drawn0.refl _ | apply Drawn0.step)⟩
    case round =>
      clear H'
      try clear c1
      try clear p2
      try clear c3
      try clear c3b0
      try clear c3b1
      try clear c3b2
      obtain ⟨x5_1, rfl, HA, HK1, ⟨m1, rfl⟩⟩ := hrel
      cases gk with
      | zero => exact absurd HA.out (by simp [laws_eqStringS.l0])
      | succ k1 =>
        have H := HA.out
        clear HA
        simp only [laws_eqStringS.l0] at H
        by_cases c4 : x5_1 < (l0.length : Int)
        · rw [if_pos c4] at H
          have c4b0 : decide (x5_1 < (l0.length : Int)) = true := decide_eq_true c4
          clear c4
          by_cases c5 : 0 ≤ x5_1
          · rw [if_pos c5] at H
            have c5b0 : decide (0 ≤ x5_1) = true := decide_eq_true c5
            clear c5
            by_cases c6 : x5_1 < (l1.length : Int)
            · rw [if_pos c6] at H
              have c6b0 : decide (x5_1 < (l1.length : Int)) = true := decide_eq_true c6
              clear c6
              by_cases c7 : (rdOf ByteArray.empty l0 x5_1).toList = (rdOf ByteArray.empty l1 x5_1).toList
              · rw [if_pos c7] at H
                have c7b0 : ((rdOf ByteArray.empty l0 x5_1).toList == (rdOf ByteArray.empty l1 x5_1).toList) = true := beq_iff_eq.mpr c7
                have c7b1 : ((rdOf ByteArray.empty l0 x5_1).toList != (rdOf ByteArray.empty l1 x5_1).toList) = false := bne_eq_false_iff_eq.mpr c7
                clear c7
                have H' := Aside0.mk H
                clear H
                have p101 : 0 ≤ (x5_1 : Int) := of_decide_eq_true (by first | (with_reducible assumption) | assumption)
                have q101 : x5_1 < (l0.length : Int) := of_decide_eq_true (by first | (with_reducible assumption) | assumption)
                obtain ⟨ad101, e101, hx101_0⟩ := Kd.at_string HR0.out x5_1 p101 q101
                cases e101
                replace p101 := eq_true p101
                replace q101 := eq_true q101
                have p102 : 0 ≤ (x5_1 : Int) := of_decide_eq_true (by first | (with_reducible assumption) | assumption)
                have q102 : x5_1 < (l1.length : Int) := of_decide_eq_true (by first | (with_reducible assumption) | assumption)
                obtain ⟨ad102, e102, hx102_0⟩ := Kd.at_string HR1.out x5_1 p102 q102
                cases e102
                replace p102 := eq_true p102
                replace q102 := eq_true q102
                go_wp2
                repeat (go_quiet (fail); try go_wp2)
                go_roundg k1
                case measure => have := HK1.out; omega
                case rel => exact ⟨(wrap64 (x5_1 + 1)), (by first | rfl | (simp; done) | (simp [*]; done)), H', ⟨by have := HK1.out; omega⟩, by repeat (first | exact Drawn0.refl _ | apply Drawn0.step)⟩
              · rw [if_neg c7] at H
                have c7b0 : ((rdOf ByteArray.empty l0 x5_1).toList == (rdOf ByteArray.empty l1 x5_1).toList) = false := beq_eq_false_iff_ne.mpr c7
                have c7b1 : ((rdOf ByteArray.empty l0 x5_1).toList != (rdOf ByteArray.empty l1 x5_1).toList) = true := bne_iff_ne.mpr c7
                obtain rfl := Option.some.inj H
                have p101 : 0 ≤ (x5_1 : Int) := of_decide_eq_true (by first | (with_reducible assumption) | assumption)
                have q101 : x5_1 < (l0.length : Int) := of_decide_eq_true (by first | (with_reducible assumption) | assumption)
                obtain ⟨ad101, e101, hx101_0⟩ := Kd.at_string HR0.out x5_1 p101 q101
                cases e101
                replace p101 := eq_true p101
                replace q101 := eq_true q101
                have p102 : 0 ≤ (x5_1 : Int) := of_decide_eq_true (by first | (with_reducible assumption) | assumption)
                have q102 : x5_1 < (l1.length : Int) := of_decide_eq_true (by first | (with_reducible assumption) | assumption)
                obtain ⟨ad102, e102, hx102_0⟩ := Kd.at_string HR1.out x5_1 p102 q102
                cases e102
                replace p102 := eq_true p102
                replace q102 := eq_true q102
                go_wp2
                repeat (go_quiet (fail); try go_wp2)
                go_ret
                exact ⟨by first | rfl | (simp; done) | (simp [*]; done), by repeat (first | exact Drawn0.refl _ | apply Drawn0.step)⟩
            · rw [if_neg c6] at H
              exact absurd H (by simp)
          · rw [if_neg c5] at H
            exact absurd H (by simp)
        · rw [if_neg c4] at H
          have c4b0 : decide (x5_1 < (l0.length : Int)) = false := decide_eq_false c4
          clear c4
          obtain rfl := Option.some.inj H
          go_wp2
          repeat (go_quiet (fail); try go_wp2)
          go_ret
          exact ⟨by first | rfl | (simp; done) | (simp [*]; done), by repeat (first | exact Drawn0.refl _ | apply Drawn0.step)⟩
  · rw [if_neg c3] at H
    have c3b0 : ((l0.length : Int) == (l1.length : Int)) = false := beq_eq_false_iff_ne.mpr c3
    have c3b1 : ((l0.length : Int) != (l1.length : Int)) = true := bne_iff_ne.mpr c3
    have c3b2 : (l0.length == l1.length) = false := by first | simpa using c3 | (simp at c3 ⊢; omega)
    obtain rfl := Option.some.inj H
    go_enter Try.func19, Try.ntmps19
    go_wp2
    repeat (go_quiet (fail); try go_wp2)
    go_ret
    exact ⟨by first | rfl | (simp; done) | (simp [*]; done), by repeat (first | exact Drawn0.refl _ | apply Drawn0.step)⟩
end Go.Proofs.Ytpdggpfobbkdnaa.A
end
section
namespace Go.Proofs.Ytpdggpfobbkdnaa.A
open Go.RowKit Go.Proofs.YtpdggpfobbkdnaaW.PrintWords Go.Proofs.YtpdggpfobbkdnaaW.PrintLast Go.Proofs.YtpdggpfobbkdnaaW.PrintMore
attribute [local go_sem] max2_int min2_int max_two min_two max_three min_three max_four min_four   -- for this text's walks alone
set_option linter.unusedVariables false
set_option linter.unusedSimpArgs false
def laws_markStringS.l0 : Nat → List ByteArray → Int → Int → Option (Int × List ByteArray)
  | 0, _, _, _ => none
  | k + 1, x0, x1, x5 => if x5 < (x0.length : Int) then ((laws_markText.f k x1).bind fun t101 => (if 0 ≤ x5 then (laws_markStringS.l0 k (x0.set (x5 : Int).toNat t101) (wrap64 (x1 + 1)) (wrap64 (x5 + 1))) else (none))) else (some (x1, x0))
def laws_markStringS.f (k : Nat) (l0 : List ByteArray) (a1 : Int) : Option (Int × List ByteArray) := laws_markStringS.l0 k l0 a1 0
theorem laws_markStringS.mono_l : ∀ k, (∀ y0 y1 y2, LeO (laws_markStringS.l0 k y0 y1 y2) (laws_markStringS.l0 (k + 1) y0 y1 y2))
  | 0 => fun _ _ _ r h => by simp [laws_markStringS.l0] at h
  | k + 1 => by
    have ih0 := laws_markStringS.mono_l k
    · intro y0 y1 y2
      unfold laws_markStringS.l0
      repeat' first
      | (with_reducible exact ih0 _ _ _)
      | (with_reducible exact laws_markText.mono _ _)
      | (with_reducible exact LeO.refl _)
      | (with_reducible exact LeO.none _)
      | (with_reducible refine LeO.ite ?_ ?_)
      | (with_reducible refine LeO.bind ?_ (fun _ => ?_))
      | exact ih0 _ _ _
      | exact laws_markText.mono _ _
      | exact LeO.none _
      | refine LeO.ite ?_ ?_
      | refine LeO.bind ?_ (fun _ => ?_)
theorem laws_markStringS.mono : ∀ a0 a1 k, LeO (laws_markStringS.f k a0 a1) (laws_markStringS.f (k + 1) a0 a1) := by
  intro a0 a1 k
  have ih0 := laws_markStringS.mono_l k
  unfold laws_markStringS.f
  repeat' first
      | (with_reducible exact ih0 _ _ _)
      | (with_reducible exact laws_markText.mono _ _)
      | (with_reducible exact LeO.refl _)
      | (with_reducible exact LeO.none _)
      | (with_reducible refine LeO.ite ?_ ?_)
      | (with_reducible refine LeO.bind ?_ (fun _ => ?_))
      | exact ih0 _ _ _
      | exact laws_markText.mono _ _
      | exact LeO.none _
      | refine LeO.ite ?_ ?_
      | refine LeO.bind ?_ (fun _ => ?_)
set_option maxHeartbeats 8000000 in
set_option maxRecDepth 100000 in
theorem laws_markStringS.calls (k : Nat) (P0_ : Nat → Prop) (u9000_ : Value) (l0 : List ByteArray) (a1 : Int) (r1 : Int) (r2 : List ByteArray) (w0 w : World) (hB : Below w0.heap.size w0 w) (ho0 : Kd.R Kd.string 9 w w0.heap.size P0_ u9000_ l0) (h : laws_markStringS.f k l0 a1 = some (r1, r2)) :
    Calls Try.prog 20 #[u9000_, .int .i64 a1] w fun e w' => e = .returned (.int .i64 r1) ∧ Kd.R Kd.string 9 w' w0.heap.size (fun k_ => (P0_ k_ ∨ w.heap.size ≤ k_)) u9000_ r2 ∧ Below w0.heap.size w0 w' ∧ Kept w w' (fun k_ => P0_ k_) := by
  have HO0 := Aside0.mk (show Kd.R Kd.string 9 w w0.heap.size (fun k_ => (P0_ k_ ∨ w.heap.size ≤ k_)) u9000_ l0 from Kd.R_mono ho0 (fun k_ hk => (.inl hk)))
  have HK := Aside0.mk (Kept.refl w (fun k_ => P0_ k_))
  have HW0 := Aside0.mk hB.size
  have HB := Aside0.mk hB
  clear hB
  have H : (laws_markStringS.l0 k l0 a1 0) = some (r1, r2) := h
  clear h
  have H' := Aside0.mk H
  clear H
  go_enter Try.func20, Try.ntmps20
  go_wp2
  go_loopg [1, 5] k (fun kq v1 v5 w' => ∃ (x0_1 : List ByteArray) (x1_1 : Int) (x5_1 : Int), v1 = .int .i64 x1_1 ∧ v5 = .int .i64 x5_1 ∧ Aside0 (laws_markStringS.l0 kq x0_1 x1_1 x5_1 = some (r1, r2)) ∧ Aside0 (kq ≤ k) ∧ Aside0 (Kd.R Kd.string 9 w' w0.heap.size (fun k_ => (P0_ k_ ∨ w.heap.size ≤ k_)) u9000_ x0_1) ∧ Aside0 (Kept w w' (fun k_ => P0_ k_)) ∧ Aside0 (Below w0.heap.size w0 w'))
  case atStart => exact ⟨(l0), (a1), (0), (by first | rfl | (simp; done) | (simp [*]; done)), (by first | rfl | (simp; done) | (simp [*]; done)), H', ⟨Nat.le_refl _⟩, ⟨by (with_reducible repeat (first | apply Kd.R_alloc | apply Kd.R_drewN | apply Kd.R_drew)); exact HO0.out⟩, ⟨by repeat (first | (with_reducible first | exact HK.out | apply Kept.alloc | apply Kept.drewN | apply Kept.drew) | exact HK.out)⟩, ⟨by repeat (first | (with_reducible first | exact HB.out | apply below_alloc | apply pw_below_drewN | apply below_drew1) | exact HB.out)⟩⟩
  case round =>
    clear H'
    try clear c2
    try clear p2
    obtain ⟨x0_1, x1_1, x5_1, rfl, rfl, HA, HK1, HO_0, HK, HB⟩ := hrel
    cases gk with
    | zero => exact absurd HA.out (by simp [laws_markStringS.l0])
    | succ k1 =>
      have H := HA.out
      clear HA
      simp only [laws_markStringS.l0] at H
      by_cases c3 : x5_1 < (x0_1.length : Int)
      · rw [if_pos c3] at H
        have c3b0 : decide (x5_1 < (x0_1.length : Int)) = true := decide_eq_true c3
        clear c3
        replace H := Option.bind_eq_some_iff.mp H
        obtain ⟨t101, A40, H⟩ := H
        replace H : (if 0 ≤ x5_1 then (laws_markStringS.l0 k1 (x0_1.set (x5_1 : Int).toNat t101) (wrap64 (x1_1 + 1)) (wrap64 (x5_1 + 1))) else (none)) = some (r1, r2) := H
        have A4 := Aside0.mk A40
        clear A40
        by_cases c5 : 0 ≤ x5_1
        · rw [if_pos c5] at H
          have c5b0 : decide (0 ≤ x5_1) = true := decide_eq_true c5
          clear c5
          obtain ⟨y102, hy102⟩ : ∃ y_ : List ByteArray, y_ = (x0_1.set (x5_1 : Int).toNat t101) := ⟨_, rfl⟩
          replace H : (laws_markStringS.l0 k1 y102 (wrap64 (x1_1 + 1)) (wrap64 (x5_1 + 1))) = some (r1, r2) := by first | (rw [hy102]; with_reducible exact H) | (have H2_ := (Option.bind_some _ _).symm.trans H; rw [hy102]; with_reducible exact H2_) | (have H2_ := (Option.bind_some _ _).symm.trans H; with_reducible exact H2_) | with_reducible exact H | (rw [hy102]; exact H) | exact H
          have Ny102 := Aside0.mk hy102
          clear hy102
          have H' := Aside0.mk H
          clear H
          obtain ⟨Ao7, co7, eo7⟩ := Kd.R_slice HO_0.out
          subst eo7
          go_wp2_with (first | ((with_reducible refine gate_callee (f := 61) rfl ?_); refine goesL_ (some 15) rfl rfl Try.func61 (by kernel_rfl) rfl #[.int .i64 x1_1] rfl (by (try simp only [List.map_toArray, List.map_cons, List.map_nil]); first | done | rfl | (simp only [List.length_drop, List.length_take]; rfl)) ?_; (with_reducible refine (laws_markText.calls k1 x1_1 t101 _ A4.out).mono ?_); rintro e w8 ⟨rfl, hb⟩; refine ⟨_, rfl, ?_⟩; have n0_ := Aside0.mk (Kd.R_below (by (with_reducible repeat (first | apply Kd.R_alloc | apply Kd.R_drewN | apply Kd.R_drew)); exact HO_0.out) hb); have n1_ := Aside0.mk (Kept.below (S := (fun k_ => P0_ k_)) (by repeat (first | (with_reducible first | exact HK.out | apply Kept.alloc | apply Kept.drewN | apply Kept.drew) | exact HK.out)) hb); have n2_ := Aside0.mk (below_step (by repeat (first | (with_reducible first | exact HB.out | apply below_alloc | apply pw_below_drewN | apply below_drew1) | exact HB.out)) hb); clear HO_0; clear HK; clear HB; have HO_0 := n0_; have HK := n1_; have HB := n2_; clear n0_ n1_ n2_; (try clear hb); (try clear hb2); (try clear hk); (try clear hi); have p6 : 0 ≤ (x5_1 : Int) := of_decide_eq_true (by first | (with_reducible assumption) | assumption); have q6 : (x5_1 : Int) < ((x0_1.length : Int) : Int) := of_decide_eq_true (by first | (with_reducible assumption) | assumption); obtain ⟨go6, co6, eo6, gb6, gl6, cl6, HG6⟩ := Kd.R_form HO_0.out (by omega); (first | cases eo6 | (injection eo6 with ea_ en_ ec_; (first | subst ea_ | (injection ea_ with ea_; subst ea_)); subst ec_; clear en_)); have GB6 := Aside0.mk gb6; have GG6 := Aside0.mk HG6; clear gb6 gl6 HG6; have HMgo6 := Aside0.mk (show (P0_ go6 ∨ w.heap.size ≤ go6) from (HO_0.out.1 _ rfl)); obtain ⟨hx6_0, hf6_0⟩ := Kd.R_celln (⟨#[]⟩ : ByteArray) HO_0.out (x5_1 : Int) p6 q6; replace p6 := eq_true p6; replace q6 := eq_true q6; obtain ⟨hy9_, hz9_⟩ := Kd.R_celln (⟨#[]⟩ : ByteArray) HO_0.out (x5_1 : Int) (of_decide_eq_true (by first | (with_reducible assumption) | assumption)) (of_decide_eq_true (by first | (with_reducible assumption) | assumption)); have HP9 := Kd.R_putg HO_0.out (x5_1 : Int) t101) | ((with_reducible refine gate_store (t := 9) (p := 16) rfl ?_); refine store_event (t := 9) (p := 16) (v := ?vo_w10) (w1 := (w8.setCell ⟨go6, (x5_1 : Int).toNat, none⟩ (.string t101))) ?hg ?ho ?hn ?hr ?_; (case ho => rfl); (case hg => rfl); (case hn => rfl); (case hr => first | (go_simp; done) | (go_simp; rfl)); intro w10 hw; have hg : w8.grownBy w10 (some go6) := (by rw [hw]; exact HP9.2); have hp_ : Kd.R Kd.string 9 w10 w0.heap.size (fun k_ => (P0_ k_ ∨ w.heap.size ≤ k_)) (.slice (some ⟨go6, 0, none⟩) x0_1.length co7) y102 := (by rw [hw, Ny102.out]; exact HP9.1); clear HP9; have n0_ := Aside0.mk (hp_); have n1_ := Aside0.mk ((by rw [hw]; exact below_set (HB.out) GB6.out : Below w0.heap.size w0 w10)); have n2_ := Aside0.mk (Kept.of_grown (S := (fun k_ => P0_ k_)) hg (by repeat (first | (with_reducible first | exact HK.out | apply Kept.alloc | apply Kept.drewN | apply Kept.drew) | exact HK.out)) (fun k_ e_ => (HO_0.out.1 k_ e_))); clear HO_0; clear HB; clear HK; have HO_0 := n0_; have HB := n1_; have HK := n2_; clear n0_ n1_ n2_; clear hg hw hp_))
          go_roundg k1
          case measure => have := HK1.out; omega
          case rel => exact ⟨(y102), (wrap64 (x1_1 + 1)), (wrap64 (x5_1 + 1)), (by first | rfl | (simp; done) | (simp [*]; done)), (by first | rfl | (simp; done) | (simp [*]; done)), H', ⟨by have := HK1.out; omega⟩, ⟨by (with_reducible repeat (first | apply Kd.R_alloc | apply Kd.R_drewN | apply Kd.R_drew)); exact HO_0.out⟩, ⟨by repeat (first | (with_reducible first | exact HK.out | apply Kept.alloc | apply Kept.drewN | apply Kept.drew) | exact HK.out)⟩, ⟨by repeat (first | (with_reducible first | exact HB.out | apply below_alloc | apply pw_below_drewN | apply below_drew1) | exact HB.out)⟩⟩
        · rw [if_neg c5] at H
          exact absurd H (by simp)
      · rw [if_neg c3] at H
        have c3b0 : decide (x5_1 < (x0_1.length : Int)) = false := decide_eq_false c3
        clear c3
        simp only [Option.some.injEq, Prod.mk.injEq] at H
        obtain ⟨rfl, rfl⟩ := H
        obtain ⟨Ao11, co11, eo11⟩ := Kd.R_slice HO_0.out
        subst eo11
        go_wp2
        go_ret
        exact ⟨by first | rfl | (simp [errW_none, errW_some] <;> rfl) | (simp [*, errW_none, errW_some] <;> rfl), by (with_reducible repeat (first | apply Kd.R_alloc | apply Kd.R_drewN | apply Kd.R_drew)); exact HO_0.out, by repeat (first | (with_reducible first | exact HB.out | apply below_alloc | apply pw_below_drewN | apply below_drew1) | exact HB.out), by repeat (first | (with_reducible first | exact HK.out | apply Kept.alloc | apply Kept.drewN | apply Kept.drew) | exact HK.out)⟩
end Go.Proofs.Ytpdggpfobbkdnaa.A
end
section
namespace Go.Proofs.Ytpdggpfobbkdnaa.A
open Go.RowKit Go.Proofs.YtpdggpfobbkdnaaW.PrintWords Go.Proofs.YtpdggpfobbkdnaaW.PrintLast
theorem ba_size_append (a b : ByteArray) : (a ++ b).size = a.size + b.size := ByteArray.size_append
theorem strOfNums_one (n : Int) : (strOfNums [n]).size = 1 := by
  simp [strOfNums, ByteArray.size]
theorem markText_l0 : ∀ (d : Nat) (n : Int) (x : ByteArray), 0 ≤ n → n < 2 ^ d → n ≤ 4611686018427387904 → x.size + d ≤ 1000 → ∃ s, Ev (fun k => laws_markText.l0 k n x) s := by
  intro d
  induction d with
  | zero =>
    intro n x h0 h1 _ hx
    refine ⟨(⟨#[109]⟩ : ByteArray) ++ x, Ev.succ ?_⟩
    simp only [laws_markText.l0]
    exact Ev.neg (by omega) (Ev.pos (by omega) (Ev.now _))
  | succ d ih =>
    intro n x h0 h1 h2 hx
    by_cases hn : n > 0
    · have hd : Int.tdiv n 10 = n / 10 := Int.tdiv_eq_ediv_of_nonneg h0
      have hw : wrap64 (n / 10) = n / 10 := w64 (by omega) (by omega)
      have hp : (2 : Int) ^ (d + 1) = 2 * 2 ^ d := by rw [Int.pow_succ]; omega
      obtain ⟨s, hs⟩ := ih (n / 10) (strOfNums [(wrap64 (48 + (Int.tmod n 10))) % 256] ++ x) (by omega) (by omega) (by omega) (by rw [ba_size_append, strOfNums_one]; omega)
      refine ⟨s, Ev.succ ?_⟩
      simp only [laws_markText.l0, hd, hw, Option.bind_some]
      exact Ev.pos hn (Ev.pos (by rw [strOfNums_one]; omega) hs)
    · refine ⟨(⟨#[109]⟩ : ByteArray) ++ x, Ev.succ ?_⟩
      simp only [laws_markText.l0]
      exact Ev.neg hn (Ev.pos (by omega) (Ev.now _))
theorem markText_ev (n : Nat) (hn : n ≤ 4611686018427387904) : ∃ s, Ev (fun k => laws_markText.f k (n : Int)) s := by
  by_cases h : (n : Int) ≤ 0
  · exact ⟨_, by simp only [laws_markText.f]; exact Ev.pos h (Ev.now _)⟩
  · obtain ⟨s, hs⟩ := markText_l0 63 n ⟨#[]⟩ (by omega) (by omega) (by omega) (by decide)
    exact ⟨s, by simp only [laws_markText.f]; exact Ev.neg h hs⟩
noncomputable def mt (n : Nat) : ByteArray := if h : n ≤ 4611686018427387904 then Classical.choose (markText_ev n h) else ByteArray.empty
theorem mt_ev (n : Nat) (h : n ≤ 4611686018427387904) : Ev (fun k => laws_markText.f k (n : Int)) (mt n) := by
  unfold mt
  rw [dif_pos h]
  exact Classical.choose_spec (markText_ev n h)
end Go.Proofs.Ytpdggpfobbkdnaa.A
end
section
namespace Go.Proofs.Ytpdggpfobbkdnaa.A
open Go.RowKit Go.Proofs.YtpdggpfobbkdnaaW.PrintWords Go.Proofs.YtpdggpfobbkdnaaW.PrintLast
noncomputable def mkB (j : Nat) : Blk := ⟨mt (3 * j + 1), mt (3 * j + 2), mt (3 * j + 3)⟩
noncomputable def marksB (n : Nat) : List Blk := (List.range n).map mkB
theorem marksB_len (n : Nat) : (marksB n).length = n := by simp [marksB]
theorem w64_num {a b : Nat} (h : a + 1 = b) (hb : b ≤ 9223372036854775807) : wrap64 ((a : Int) + 1) = (b : Int) := by
  rw [w64 (by omega) (by omega)]
  omega
theorem markBlockS_l0 (n : Nat) (hl : n ≤ 1048576) : ∀ (d i : Nat) (x : List Blk), i + d = n → x.length = n → (∀ j, j < i → x[j]? = some (mkB j)) →
    Ev (fun k => laws_markBlockS.l0 k x ((3 * i + 1 : Nat) : Int) i) (((3 * n + 1 : Nat) : Int), marksB n) := by
  intro d
  induction d with
  | zero =>
    intro i x hi hx hp
    refine Ev.succ ?_
    simp only [laws_markBlockS.l0]
    refine Ev.neg (by omega) (Ev.to (Ev.now _) ?_)
    obtain rfl : i = n := by omega
    refine congrArg _ (List.ext_getElem? fun j => ?_)
    by_cases hj : j < i
    · rw [hp j hj]
      simp [marksB, hj]
    · rw [List.getElem?_eq_none (by omega), List.getElem?_eq_none (by rw [marksB_len]; omega)]
  | succ d ih =>
    intro i x hi hx hp
    have hlt : i < x.length := by omega
    refine Ev.succ ?_
    simp only [laws_markBlockS.l0]
    rw [w64_num (b := 3 * i + 2) (by omega) (by omega), w64_num (a := 3 * i + 2) (b := 3 * i + 3) (by omega) (by omega), w64_num (a := 3 * i + 3) (b := 3 * (i + 1) + 1) (by omega) (by omega), w64_succ hlt (by omega), Int.toNat_natCast]
    have hb : ∀ (y : List Blk) (b : Blk), y.length = n → rd_T69 (y.set i b) (i : Int) = b := fun y b hy => by
      rw [rdB_at _ i (by rw [List.length_set]; omega), List.getElem_set_self]
    refine Ev.pos (by omega) (Ev.bind (mt_ev (3 * i + 1) (by omega)) (Ev.pos (by omega) ?_))
    simp only [Option.bind_some]
    refine Ev.bind (mt_ev (3 * i + 2) (by omega)) ?_
    simp only [hb x _ hx]
    refine Ev.bind (mt_ev (3 * i + 3) (by omega)) ?_
    simp only [List.set_set, hb x _ hx]
    refine ih (i + 1) _ (by omega) (by simpa using hx) fun j hj => ?_
    by_cases e : i = j
    · subst e
      rw [List.getElem?_set_self (by omega)]
      rfl
    · rw [List.getElem?_set_ne e]
      exact hp j (by omega)
theorem markBlockS_ev (l : List Blk) (hl : l.length ≤ 1048576) : Ev (fun k => laws_markBlockS.f k l 1) (((3 * l.length + 1 : Nat) : Int), marksB l.length) := by
  simp only [laws_markBlockS.f]
  exact markBlockS_l0 l.length hl l.length 0 l (by omega) rfl (fun j hj => absurd hj (by omega))
end Go.Proofs.Ytpdggpfobbkdnaa.A
end
section
namespace Go.Proofs.Ytpdggpfobbkdnaa.A
open Go.RowKit Go.Proofs.YtpdggpfobbkdnaaW.PrintWords Go.Proofs.YtpdggpfobbkdnaaW.PrintLast
theorem marksB_at (n i : Nat) (h : i < n) : rd_T69 (marksB n) (i : Int) = mkB i := by
  rw [rdB_at _ _ (by rw [marksB_len]; exact h)]
  simp [marksB]
theorem heldBlockS_l0 (n : Nat) (hl : n ≤ 1048576) : ∀ (d i : Nat), i + d = n → Ev (fun k => laws_heldBlockS.l0 k (marksB n) ((3 * i + 1 : Nat) : Int) i) ((3 * n + 1 : Nat) : Int) := by
  intro d
  induction d with
  | zero =>
    intro i hi
    refine Ev.succ ?_
    simp only [laws_heldBlockS.l0, marksB_len]
    refine Ev.neg (by omega) (Ev.to (Ev.now _) (by omega))
  | succ d ih =>
    intro i hi
    have hlt : i < n := by omega
    refine Ev.succ ?_
    simp only [laws_heldBlockS.l0, marksB_len]
    rw [marksB_at n i hlt, w64_num (b := 3 * i + 2) (by omega) (by omega), w64_num (a := 3 * i + 2) (b := 3 * i + 3) (by omega) (by omega), w64_num (a := 3 * i + 3) (b := 3 * (i + 1) + 1) (by omega) (by omega), w64_succ hlt (by omega)]
    exact Ev.pos (by omega) (Ev.pos (by omega) (Ev.bind (mt_ev (3 * i + 1) (by omega)) (Ev.pos rfl (Ev.bind (mt_ev (3 * i + 2) (by omega)) (Ev.pos rfl (Ev.bind (mt_ev (3 * i + 3) (by omega)) (Ev.pos rfl (ih (i + 1) (by omega)))))))))
theorem heldBlockS_ev (n : Nat) (hl : n ≤ 1048576) : Ev (fun k => laws_heldBlockS.f k (marksB n) 1) ((3 * n + 1 : Nat) : Int) := by
  simp only [laws_heldBlockS.f]
  exact heldBlockS_l0 n hl n 0 (by omega)
end Go.Proofs.Ytpdggpfobbkdnaa.A
end
section
namespace Go.Proofs.Ytpdggpfobbkdnaa.A
open Go.RowKit Go.Proofs.YtpdggpfobbkdnaaW.PrintWords Go.Proofs.YtpdggpfobbkdnaaW.PrintLast Go.Proofs.YtpdggpfobbkdnaaW.PrintMore
attribute [local go_sem] max2_int min2_int max_two min_two max_three min_three max_four min_four   -- for this text's walks alone
set_option linter.unusedVariables false
set_option linter.unusedSimpArgs false
def spec_l29Find.l0 : Nat → List (S69) → ByteArray → ByteArray → Int → Option (Int)
  | 0, _, _, _, _ => none
  | k + 1, x0, x1, x2, x7 => if x7 < (x0.length : Int) then (if 0 ≤ x7 then (if ((rd_T69 x0 x7).f0).toList = x1.toList then (if ((rd_T69 x0 x7).f1).toList = x2.toList then (some x7) else (spec_l29Find.l0 k x0 x1 x2 (wrap64 (x7 + 1)))) else (spec_l29Find.l0 k x0 x1 x2 (wrap64 (x7 + 1)))) else (none)) else (some (-1))
def spec_l29Find.f (k : Nat) (l0 : List (S69)) (a1 : ByteArray) (a2 : ByteArray) : Option (Int) := spec_l29Find.l0 k l0 a1 a2 0
theorem spec_l29Find.mono_l : ∀ k, (∀ y0 y1 y2 y3, LeO (spec_l29Find.l0 k y0 y1 y2 y3) (spec_l29Find.l0 (k + 1) y0 y1 y2 y3))
  | 0 => fun _ _ _ _ r h => by simp [spec_l29Find.l0] at h
  | k + 1 => by
    have ih0 := spec_l29Find.mono_l k
    · intro y0 y1 y2 y3
      unfold spec_l29Find.l0
      repeat' first
      | (with_reducible exact ih0 _ _ _ _)
      | (with_reducible exact LeO.refl _)
      | (with_reducible exact LeO.none _)
      | (with_reducible refine LeO.ite ?_ ?_)
      | (with_reducible refine LeO.bind ?_ (fun _ => ?_))
      | exact ih0 _ _ _ _
      | exact LeO.none _
      | refine LeO.ite ?_ ?_
      | refine LeO.bind ?_ (fun _ => ?_)
theorem spec_l29Find.mono : ∀ a0 a1 a2 k, LeO (spec_l29Find.f k a0 a1 a2) (spec_l29Find.f (k + 1) a0 a1 a2) := by
  intro a0 a1 a2 k
  have ih0 := spec_l29Find.mono_l k
  unfold spec_l29Find.f
  repeat' first
      | (with_reducible exact ih0 _ _ _ _)
      | (with_reducible exact LeO.refl _)
      | (with_reducible exact LeO.none _)
      | (with_reducible refine LeO.ite ?_ ?_)
      | (with_reducible refine LeO.bind ?_ (fun _ => ?_))
      | exact ih0 _ _ _ _
      | exact LeO.none _
      | refine LeO.ite ?_ ?_
      | refine LeO.bind ?_ (fun _ => ?_)
set_option maxHeartbeats 8000000 in
set_option maxRecDepth 100000 in
theorem spec_l29Find.calls (k : Nat) (A0 : Option Addr) (c0 : Nat) (l0 : List (S69)) (a1 : ByteArray) (a2 : ByteArray) (r : Int) (w : World) (hr0 : Kd.C k69 w A0 l0.length l0) (hc0 : l0.length ≤ c0) (h : spec_l29Find.f k l0 a1 a2 = some r) :
    Calls Try.prog 66 #[.slice A0 l0.length c0, .string a1, .string a2] w fun e w' => e = .returned (.int .i64 r) ∧ Drawn0 w w' := by
  have HR0 := Aside0.mk hr0
  have HC0 := Aside0.mk hc0
  clear hr0 hc0
  have H : (spec_l29Find.l0 k l0 a1 a2 0) = some r := h
  clear h
  have H' := Aside0.mk H
  clear H
  go_enter Try.func66, Try.ntmps66
  go_wp2
  go_loopg [7] k (fun kq v7 w' => ∃ (x7_1 : Int), v7 = .int .i64 x7_1 ∧ Aside0 (spec_l29Find.l0 kq l0 a1 a2 x7_1 = some r) ∧ Aside0 (kq ≤ k) ∧ Drawn0 w w')
  case atStart => exact ⟨(0), (by first | rfl | (simp; done) | (simp [*]; done)), H', ⟨Nat.le_refl _⟩, by repeat (first | exact Drawn0.refl _ | apply Drawn0.step)⟩
  case round =>
    clear H'
    try clear p2
    obtain ⟨x7_1, rfl, HA, HK1, ⟨m1, rfl⟩⟩ := hrel
    cases gk with
    | zero => exact absurd HA.out (by simp [spec_l29Find.l0])
    | succ k1 =>
      have H := HA.out
      clear HA
      simp only [spec_l29Find.l0] at H
      by_cases c4 : x7_1 < (l0.length : Int)
      · rw [if_pos c4] at H
        have c4b0 : decide (x7_1 < (l0.length : Int)) = true := decide_eq_true c4
        clear c4
        by_cases c5 : 0 ≤ x7_1
        · rw [if_pos c5] at H
          have c5b0 : decide (0 ≤ x7_1) = true := decide_eq_true c5
          clear c5
          by_cases c6 : ((rd_T69 l0 x7_1).f0).toList = a1.toList
          · rw [if_pos c6] at H
            have c6b0 : (((rd_T69 l0 x7_1).f0).toList == a1.toList) = true := beq_iff_eq.mpr c6
            have c6b1 : (((rd_T69 l0 x7_1).f0).toList != a1.toList) = false := bne_eq_false_iff_eq.mpr c6
            clear c6
            by_cases c7 : ((rd_T69 l0 x7_1).f1).toList = a2.toList
            · rw [if_pos c7] at H
              have c7b0 : (((rd_T69 l0 x7_1).f1).toList == a2.toList) = true := beq_iff_eq.mpr c7
              have c7b1 : (((rd_T69 l0 x7_1).f1).toList != a2.toList) = false := bne_eq_false_iff_eq.mpr c7
              clear c7
              obtain rfl := Option.some.inj H
              have p101 : 0 ≤ (x7_1 : Int) := of_decide_eq_true (by first | (with_reducible assumption) | assumption)
              have q101 : x7_1 < (l0.length : Int) := of_decide_eq_true (by first | (with_reducible assumption) | assumption)
              obtain ⟨ad101, e101, hx101_0, hx101_1, hx101_2⟩ := at_T69 HR0.out x7_1 p101 q101
              cases e101
              replace p101 := eq_true p101
              replace q101 := eq_true q101
              have p102 : 0 ≤ (x7_1 : Int) := of_decide_eq_true (by first | (with_reducible assumption) | assumption)
              have q102 : x7_1 < (l0.length : Int) := of_decide_eq_true (by first | (with_reducible assumption) | assumption)
              obtain ⟨ad102, e102, hx102_0, hx102_1, hx102_2⟩ := at_T69 HR0.out x7_1 p102 q102
              obtain rfl : ad101 = ad102 := (by injection e102)
              replace p102 := eq_true p102
              replace q102 := eq_true q102
              go_wp2
              go_ret
              exact ⟨by first | rfl | (simp; done) | (simp [*]; done), by repeat (first | exact Drawn0.refl _ | apply Drawn0.step)⟩
            · rw [if_neg c7] at H
              have c7b0 : (((rd_T69 l0 x7_1).f1).toList == a2.toList) = false := beq_eq_false_iff_ne.mpr c7
              have c7b1 : (((rd_T69 l0 x7_1).f1).toList != a2.toList) = true := bne_iff_ne.mpr c7
              have H' := Aside0.mk H
              clear H
              have p101 : 0 ≤ (x7_1 : Int) := of_decide_eq_true (by first | (with_reducible assumption) | assumption)
              have q101 : x7_1 < (l0.length : Int) := of_decide_eq_true (by first | (with_reducible assumption) | assumption)
              obtain ⟨ad101, e101, hx101_0, hx101_1, hx101_2⟩ := at_T69 HR0.out x7_1 p101 q101
              cases e101
              replace p101 := eq_true p101
              replace q101 := eq_true q101
              have p102 : 0 ≤ (x7_1 : Int) := of_decide_eq_true (by first | (with_reducible assumption) | assumption)
              have q102 : x7_1 < (l0.length : Int) := of_decide_eq_true (by first | (with_reducible assumption) | assumption)
              obtain ⟨ad102, e102, hx102_0, hx102_1, hx102_2⟩ := at_T69 HR0.out x7_1 p102 q102
              obtain rfl : ad101 = ad102 := (by injection e102)
              replace p102 := eq_true p102
              replace q102 := eq_true q102
              go_wp2
              go_roundg k1
              case measure => have := HK1.out; omega
              case rel => exact ⟨(wrap64 (x7_1 + 1)), (by first | rfl | (simp; done) | (simp [*]; done)), H', ⟨by have := HK1.out; omega⟩, by repeat (first | exact Drawn0.refl _ | apply Drawn0.step)⟩
          · rw [if_neg c6] at H
            have c6b0 : (((rd_T69 l0 x7_1).f0).toList == a1.toList) = false := beq_eq_false_iff_ne.mpr c6
            have c6b1 : (((rd_T69 l0 x7_1).f0).toList != a1.toList) = true := bne_iff_ne.mpr c6
            have H' := Aside0.mk H
            clear H
            have p101 : 0 ≤ (x7_1 : Int) := of_decide_eq_true (by first | (with_reducible assumption) | assumption)
            have q101 : x7_1 < (l0.length : Int) := of_decide_eq_true (by first | (with_reducible assumption) | assumption)
            obtain ⟨ad101, e101, hx101_0, hx101_1, hx101_2⟩ := at_T69 HR0.out x7_1 p101 q101
            cases e101
            replace p101 := eq_true p101
            replace q101 := eq_true q101
            go_wp2
            go_roundg k1
            case measure => have := HK1.out; omega
            case rel => exact ⟨(wrap64 (x7_1 + 1)), (by first | rfl | (simp; done) | (simp [*]; done)), H', ⟨by have := HK1.out; omega⟩, by repeat (first | exact Drawn0.refl _ | apply Drawn0.step)⟩
        · rw [if_neg c5] at H
          exact absurd H (by simp)
      · rw [if_neg c4] at H
        have c4b0 : decide (x7_1 < (l0.length : Int)) = false := decide_eq_false c4
        clear c4
        obtain rfl := Option.some.inj H
        go_wp2
        go_ret
        exact ⟨by first | rfl | (simp; done) | (simp [*]; done), by repeat (first | exact Drawn0.refl _ | apply Drawn0.step)⟩
end Go.Proofs.Ytpdggpfobbkdnaa.A
end
section
namespace Go.Proofs.Ytpdggpfobbkdnaa.A
open Go.RowKit Go.Proofs.YtpdggpfobbkdnaaW.PrintWords Go.Proofs.YtpdggpfobbkdnaaW.PrintLast
theorem bl_trans : ∀ {a b c : List UInt8}, Op.bytesLess a b = true → Op.bytesLess b c = true → Op.bytesLess a c = true
  | _, [], _, h, _ => by simp [Op.bytesLess] at h
  | _, _ :: _, [], _, h => by simp [Op.bytesLess] at h
  | [], _ :: _, _ :: _, _, _ => by simp [Op.bytesLess]
  | x :: a, y :: b, z :: c, h1, h2 => by
    simp only [Op.bytesLess, Bool.or_eq_true, Bool.and_eq_true, decide_eq_true_eq, beq_iff_eq, UInt8.lt_iff_toNat_lt] at h1 h2 ⊢
    rcases h1 with h1 | ⟨rfl, h1⟩
    · rcases h2 with h2 | ⟨rfl, h2⟩
      · exact .inl (by omega)
      · exact .inl h1
    · rcases h2 with h2 | ⟨rfl, h2⟩
      · exact .inl h2
      · exact .inr ⟨rfl, bl_trans h1 h2⟩
theorem blkLt_iff (a b : Blk) : blkLt a b = true ↔ Op.bytesLess a.f0.toList b.f0.toList = true ∨ (a.f0.toList = b.f0.toList ∧ Op.bytesLess a.f1.toList b.f1.toList = true) := by
  simp [blkLt]
theorem blkLt_trans {a b c : Blk} (h1 : blkLt a b = true) (h2 : blkLt b c = true) : blkLt a c = true := by
  rw [blkLt_iff] at *
  rcases h1 with h1 | ⟨e1, h1⟩
  · rcases h2 with h2 | ⟨e2, h2⟩
    · exact .inl (bl_trans h1 h2)
    · exact .inl (e2 ▸ h1)
  · rcases h2 with h2 | ⟨e2, h2⟩
    · exact .inl (e1 ▸ h2)
    · exact .inr ⟨e1.trans e2, bl_trans h1 h2⟩
theorem okFromB_at (l : List Blk) : ∀ (d i : Nat), i + d = l.length → okFromB l d i = true → ∀ j (h : j < l.length), i ≤ j → blkOk l[j] = true ∧ (∀ (h0 : 0 < j), blkLt (l[j - 1]'(by omega)) l[j] = true) := by
  intro d
  induction d with
  | zero => intro i hi _ j h hj; omega
  | succ d ih =>
    intro i hi ho j h hj
    simp only [okFromB, Bool.and_eq_true] at ho
    have hlt : i < l.length := by omega
    rw [List.getElem?_eq_getElem hlt] at ho
    simp only [Bool.and_eq_true] at ho
    obtain ⟨⟨h1, h2⟩, h3⟩ := ho
    by_cases e : i = j
    · subst e
      refine ⟨h1, fun h0 => ?_⟩
      cases i with
      | zero => omega
      | succ m =>
        have hm : m < l.length := by omega
        simp only [List.getElem?_eq_getElem hm] at h2
        simpa using h2
    · exact ih (i + 1) (by omega) h3 j h (by omega)
def SortedB (l : List Blk) : Prop := ∀ i j (hi : i < l.length) (hj : j < l.length), i < j → blkLt l[i] l[j] = true
theorem blksOk_sorted {l : List Blk} (h : blksOk l = true) : SortedB l ∧ l.length ≤ 32 ∧ ∀ b ∈ l, blkOk b = true := by
  unfold blksOk at h
  rw [Bool.and_eq_true] at h
  have ha := okFromB_at l l.length 0 (by omega) h.1
  refine ⟨?_, of_decide_eq_true h.2, fun b hb => ?_⟩
  · intro i j hi hj hij
    induction j with
    | zero => omega
    | succ j ih =>
      have hs := (ha (j + 1) hj (by omega)).2 (by omega)
      by_cases e : i = j
      · subst e
        exact hs
      · exact blkLt_trans (ih (by omega) (by omega)) hs
  · obtain ⟨j, hj, rfl⟩ := List.getElem_of_mem hb
    exact (ha j hj (by omega)).1
theorem mid_w (lo hi : Nat) (h : lo + hi ≤ 4611686018427387904) : wrap64 ((IntKind.u64.wrap (wrap64 ((lo : Int) + (hi : Int)))) / 2) = (((lo + hi) / 2 : Nat) : Int) := by
  have e1 : wrap64 ((lo : Int) + (hi : Int)) = ((lo + hi : Nat) : Int) := by rw [w64 (by omega) (by omega)]; omega
  have e2 : IntKind.u64.wrap ((lo + hi : Nat) : Int) = ((lo + hi : Nat) : Int) := by
    simp [IntKind.wrap, IntKind.bits, IntKind.signed]
    omega
  rw [e1, e2, w64 (by omega) (by omega)]
  omega
structure PlaceB (l : List Blk) (t : Blk) (p : Nat) : Prop where
  le : p ≤ l.length
  below : ∀ j (h : j < l.length), j < p → blkLt l[j] t = true
  above : ∀ j (h : j < l.length), p ≤ j → blkLt l[j] t = false
theorem BS_l0 (l : List Blk) (t : Blk) (hs : SortedB l) (hl : l.length ≤ 1048576) : ∀ (d lo hi : Nat), hi - lo ≤ d → lo ≤ hi → hi ≤ l.length → (∀ j (h : j < l.length), j < lo → blkLt l[j] t = true) → (∀ j (h : j < l.length), hi ≤ j → blkLt l[j] t = false) →
    ∃ p, PlaceB l t p ∧ Ev (fun k => impl_Block_67.l0 k l (l.length : Int) lo hi t.f0 t.f1 t.f2) ((p : Int), (if h : p < l.length then cmpB l[p] t == 0 else false)) := by
  intro d
  induction d with
  | zero =>
    intro lo hi hd hle hn hlo hhi
    obtain rfl : lo = hi := by omega
    refine ⟨lo, ⟨hn, hlo, hhi⟩, Ev.succ ?_⟩
    simp only [impl_Block_67.l0]
    refine Ev.neg (by omega) ?_
    by_cases h : lo < l.length
    · simp only [rdB_at l lo h, dif_pos h]
      exact Ev.pos (by omega) (Ev.pos (by omega) (Ev.pos (by omega) (Ev.bind (compareBlocks_ev _ _) (Ev.now _))))
    · simp only [dif_neg h]
      exact Ev.neg (by omega) (Ev.now _)
  | succ d ih =>
    intro lo hi hd hle hn hlo hhi
    by_cases hlt : lo < hi
    · have hm : (lo + hi) / 2 < l.length := by omega
      by_cases hc : cmpB l[(lo + hi) / 2] t < 0
      · obtain ⟨p, hp, he⟩ := ih ((lo + hi) / 2 + 1) hi (by omega) (by omega) hn (fun j h hj => by
          by_cases e : j = (lo + hi) / 2
          · subst e
            exact (cmpB_neg _ _).1 hc
          · exact blkLt_trans (hs j ((lo + hi) / 2) h hm (by omega)) ((cmpB_neg _ _).1 hc)) hhi
        refine ⟨p, hp, Ev.succ ?_⟩
        simp only [impl_Block_67.l0, mid_w lo hi (by omega), rdB_at l _ hm, w64_succ hm (by omega : l.length ≤ _)]
        exact Ev.pos (by omega) (Ev.pos (by omega) (Ev.pos (by omega) (Ev.bind (compareBlocks_ev _ _) (Ev.pos hc he))))
      · obtain ⟨p, hp, he⟩ := ih lo ((lo + hi) / 2) (by omega) (by omega) (by omega) hlo (fun j h hj => by
          cases h1 : blkLt l[j] t with
          | false => rfl
          | true =>
            by_cases e : j = (lo + hi) / 2
            · subst e
              exact absurd ((cmpB_neg _ _).2 h1) hc
            · exact absurd ((cmpB_neg _ _).2 (blkLt_trans (hs ((lo + hi) / 2) j hm h (by omega)) h1)) hc)
        refine ⟨p, hp, Ev.succ ?_⟩
        simp only [impl_Block_67.l0, mid_w lo hi (by omega), rdB_at l _ hm]
        exact Ev.pos (by omega) (Ev.pos (by omega) (Ev.pos (by omega) (Ev.bind (compareBlocks_ev _ _) (Ev.neg hc he))))
    · exact ih lo hi (by omega) hle hn hlo hhi
theorem BS_ev (l : List Blk) (t : Blk) (hs : SortedB l) (hl : l.length ≤ 1048576) :
    ∃ p, PlaceB l t p ∧ Ev (fun k => impl_Block_67.f k l t.f0 t.f1 t.f2) ((p : Int), (if h : p < l.length then cmpB l[p] t == 0 else false)) := by
  simp only [impl_Block_67.f]
  exact BS_l0 l t hs hl l.length 0 l.length (by omega) (by omega) (by omega) (fun j _ hj => absurd hj (by omega)) (fun j h hj => absurd h (by omega))
theorem l29Find_l0 (l : List Blk) (a b : ByteArray) (hl : l.length ≤ 1048576) : ∀ (d i : Nat), i + d = l.length →
    (∃ p, i ≤ p ∧ ∃ h : p < l.length, l[p].f0 = a ∧ l[p].f1 = b ∧ Ev (fun k => spec_l29Find.l0 k l a b i) (p : Int)) ∨
    ((∀ j (h : j < l.length), i ≤ j → ¬ (l[j].f0 = a ∧ l[j].f1 = b)) ∧ Ev (fun k => spec_l29Find.l0 k l a b i) (-1)) := by
  intro d
  induction d with
  | zero =>
    intro i hi
    refine .inr ⟨fun j h hj => by omega, Ev.succ ?_⟩
    simp only [spec_l29Find.l0]
    exact Ev.neg (by omega) (Ev.now _)
  | succ d ih =>
    intro i hi
    have hlt : i < l.length := by omega
    by_cases ha : l[i].f0.toList = a.toList
    · by_cases hb : l[i].f1.toList = b.toList
      · refine .inl ⟨i, by omega, hlt, bytes_ext ha, bytes_ext hb, Ev.succ ?_⟩
        simp only [spec_l29Find.l0, rdB_at l i hlt]
        exact Ev.pos (by omega) (Ev.pos (by omega) (Ev.pos ha (Ev.pos hb (Ev.now _))))
      · rcases ih (i + 1) (by omega) with ⟨p, hp, h, h1, h2, h3⟩ | ⟨h1, h2⟩
        · refine .inl ⟨p, by omega, h, h1, h2, Ev.succ ?_⟩
          simp only [spec_l29Find.l0, rdB_at l i hlt, w64_succ hlt (by omega : l.length ≤ _)]
          exact Ev.pos (by omega) (Ev.pos (by omega) (Ev.pos ha (Ev.neg hb h3)))
        · refine .inr ⟨fun j h hj hh => ?_, Ev.succ ?_⟩
          · by_cases e : j = i
            · subst e
              exact hb (by rw [hh.2])
            · exact h1 j h (by omega) hh
          · simp only [spec_l29Find.l0, rdB_at l i hlt, w64_succ hlt (by omega : l.length ≤ _)]
            exact Ev.pos (by omega) (Ev.pos (by omega) (Ev.pos ha (Ev.neg hb h2)))
    · rcases ih (i + 1) (by omega) with ⟨p, hp, h, h1, h2, h3⟩ | ⟨h1, h2⟩
      · refine .inl ⟨p, by omega, h, h1, h2, Ev.succ ?_⟩
        simp only [spec_l29Find.l0, rdB_at l i hlt, w64_succ hlt (by omega : l.length ≤ _)]
        exact Ev.pos (by omega) (Ev.pos (by omega) (Ev.neg ha h3))
      · refine .inr ⟨fun j h hj hh => ?_, Ev.succ ?_⟩
        · by_cases e : j = i
          · subst e
            exact ha (by rw [hh.1])
          · exact h1 j h (by omega) hh
        · simp only [spec_l29Find.l0, rdB_at l i hlt, w64_succ hlt (by omega : l.length ≤ _)]
          exact Ev.pos (by omega) (Ev.pos (by omega) (Ev.neg ha h2))
theorem find_both (l : List Blk) (t : Blk) (hs : SortedB l) (hl : l.length ≤ 1048576) :
    ∃ p, PlaceB l t p ∧ ((∃ h : p < l.length, l[p].f0 = t.f0 ∧ l[p].f1 = t.f1 ∧ Ev (fun k => impl_Block_67.f k l t.f0 t.f1 t.f2) ((p : Int), true) ∧ Ev (fun k => spec_l29Find.f k l t.f0 t.f1) (p : Int)) ∨
      ((∀ j (h : j < l.length), ¬ (l[j].f0 = t.f0 ∧ l[j].f1 = t.f1)) ∧ Ev (fun k => impl_Block_67.f k l t.f0 t.f1 t.f2) ((p : Int), false) ∧ Ev (fun k => spec_l29Find.f k l t.f0 t.f1) (-1))) := by
  obtain ⟨p, hp, he⟩ := BS_ev l t hs hl
  refine ⟨p, hp, ?_⟩
  simp only [spec_l29Find.f]
  have uniq : ∀ j (h : j < l.length), l[j].f0 = t.f0 → l[j].f1 = t.f1 → j = p := by
    intro j h h0 h1
    have e : blkLt l[j] t = false := by
      have h2 : ∀ b : Blk, blkLt l[j] b = blkLt ⟨t.f0, t.f1, l[j].f2⟩ b := fun b => by simp [blkLt, h0, h1]
      rw [h2]
      simp [blkLt, bl_irr]
    have hpj : p ≤ j := Nat.le_of_not_lt fun hlt => by rw [hp.below j h hlt] at e; exact absurd e (by decide)
    by_cases hj : j = p
    · exact hj
    · have hpl : p < l.length := by omega
      have h3 := hs p j hpl h (by omega)
      have h4 := hp.above p hpl (Nat.le_refl _)
      have h5 : blkLt l[p] t = blkLt l[p] l[j] := by simp [blkLt, h0, h1]
      rw [h5, h3] at h4
      exact absurd h4 (by decide)
  rcases l29Find_l0 l t.f0 t.f1 hl l.length 0 (by omega) with ⟨q, _, h, h1, h2, h3⟩ | ⟨h1, h2⟩
  · obtain rfl := uniq q h h1 h2
    refine .inl ⟨h, h1, h2, Ev.to he ?_, h3⟩
    rw [dif_pos h, beq_iff_eq.2 ((cmpB_zero _ _).2 ⟨h1, h2⟩)]
  · refine .inr ⟨fun j h => h1 j h (by omega), Ev.to he ?_, h2⟩
    by_cases h : p < l.length
    · rw [dif_pos h]
      have : (cmpB l[p] t == 0) = false := beq_eq_false_iff_ne.2 fun e => h1 p h (by omega) ((cmpB_zero _ _).1 e)
      rw [this]
    · rw [dif_neg h]
end Go.Proofs.Ytpdggpfobbkdnaa.A
end
section
namespace Go.Proofs.Ytpdggpfobbkdnaa.A
open Go.RowKit Go.Proofs.YtpdggpfobbkdnaaW.PrintWords Go.Proofs.YtpdggpfobbkdnaaW.PrintLast
def keq (a t : Blk) : Prop := a.f0.toList = t.f0.toList ∧ a.f1.toList = t.f1.toList
theorem l29Put_done (l : List Blk) (t : Blk) (hl : l.length ≤ 1048576) : ∀ (d i : Nat) (acc : List Blk), i + d = l.length → acc.length ≤ i + 1 → (∀ j (h : j < l.length), i ≤ j → ¬ keq l[j] t) →
    Ev (fun k => spec_l29Put.l0 k l acc true i t.f0 t.f1 t.f2) (acc ++ l.drop i) := by
  intro d
  induction d with
  | zero =>
    intro i acc hi ha hk
    refine Ev.succ ?_
    simp only [spec_l29Put.l0]
    rw [List.drop_of_length_le (by omega), List.append_nil]
    exact Ev.neg (by omega) (Ev.pos trivial (Ev.now _))
  | succ d ih =>
    intro i acc hi ha hk
    have hlt : i < l.length := by omega
    have h2 := ih (i + 1) (acc ++ [l[i]]) (by omega) (by simp; omega) (fun j h hj => hk j h (by omega))
    rw [List.append_assoc, List.singleton_append, ← List.drop_eq_getElem_cons hlt] at h2
    have hkn := hk i hlt (Nat.le_refl _)
    refine Ev.succ ?_
    simp only [spec_l29Put.l0]
    refine Ev.pos (by omega) (Ev.pos trivial (Ev.succ ?_))
    simp only [spec_l29Put.j1, rdB_at l i hlt, w64_succ hlt (by omega : l.length ≤ _)]
    refine Ev.neg (by decide) (Ev.pos (by omega) (Ev.pos (by omega) ?_))
    by_cases c1 : l[i].f0.toList = t.f0.toList
    · refine Ev.pos c1 (Ev.neg (fun c2 => hkn ⟨c1, c2⟩) (Ev.pos (by omega) h2))
    · exact Ev.neg c1 (Ev.pos (by omega) h2)
theorem l29Put_walk (l : List Blk) (t : Blk) (hl : l.length ≤ 1048576) (p : Nat) (hp : PlaceB l t p) (R : List Blk) (hR : Ev (fun k => spec_l29Put.l0 k l (l.take p) false p t.f0 t.f1 t.f2) R) : ∀ (d i : Nat), i + d = p →
    Ev (fun k => spec_l29Put.l0 k l (l.take i) false i t.f0 t.f1 t.f2) R := by
  intro d
  induction d with
  | zero =>
    intro i hi
    have e : i = p := by omega
    subst e
    exact hR
  | succ d ih =>
    intro i hi
    have hpl := hp.le
    have hlt : i < l.length := by omega
    have h2 := ih (i + 1) (by omega)
    rw [List.take_succ_eq_append_getElem hlt] at h2
    have hb := hp.below i hlt (by omega)
    have hbf : spec_l29Before.f l (i : Int) [(⟨t.f0, t.f1, t.f2⟩ : Blk)] 0 = some (blkLt l[i] t) := l29Before_eq l [t] i 0 hlt (by simp)
    have hkn : ¬ keq l[i] t := fun e => by
      unfold blkLt at hb
      rw [e.1, e.2, bl_irr, bl_irr] at hb
      simp at hb
    have hal : (l.take i).length = i := by rw [List.length_take]; omega
    refine Ev.succ ?_
    simp only [spec_l29Put.l0]
    refine Ev.pos (by omega) (Ev.neg (by decide) (Ev.pos (by omega) ?_))
    rw [hbf, hb]
    simp only [Option.bind_some, Bool.not_true]
    refine Ev.succ ?_
    simp only [spec_l29Put.j1, rdB_at l i hlt, w64_succ hlt (by omega : l.length ≤ _)]
    refine Ev.neg (by decide) (Ev.pos (by omega) (Ev.pos (by omega) ?_))
    by_cases c1 : l[i].f0.toList = t.f0.toList
    · refine Ev.pos c1 (Ev.neg (fun c2 => hkn ⟨c1, c2⟩) (Ev.pos (by omega) h2))
    · exact Ev.neg c1 (Ev.pos (by omega) h2)
def putAt (l : List Blk) (t : Blk) (p q : Nat) : List Blk := l.take p ++ t :: l.drop q
theorem l29Put_same (l : List Blk) (t : Blk) (hl : l.length ≤ 1048576) (hs : SortedB l) (p : Nat) (hp : PlaceB l t p) (h : p < l.length) (h0 : l[p].f0 = t.f0) (h1 : l[p].f1 = t.f1) :
    Ev (fun k => spec_l29Put.f k l t.f0 t.f1 t.f2) (putAt l t p (p + 1)) := by
  simp only [spec_l29Put.f]
  refine l29Put_walk l t hl p hp _ ?_ p 0 (by omega)
  have hal : (l.take p).length = p := by rw [List.length_take]; omega
  have h2 := l29Put_done l t hl (l.length - (p + 1)) (p + 1) (l.take p ++ [t]) (by omega) (by simp; omega) (fun j hj hij e => by
    have h3 := hs p j h hj (by omega)
    unfold blkLt at h3
    rw [e.1, e.2, h0, h1, bl_irr, bl_irr] at h3
    simp at h3)
  rw [List.append_assoc, List.singleton_append] at h2
  have hbf : spec_l29Before.f l (p : Int) [(⟨t.f0, t.f1, t.f2⟩ : Blk)] 0 = some (blkLt l[p] t) := l29Before_eq l [t] p 0 h (by simp)
  have hb := hp.above p h (Nat.le_refl _)
  refine Ev.succ ?_
  simp only [spec_l29Put.l0]
  refine Ev.pos (by omega) (Ev.neg (by decide) (Ev.pos (by omega) ?_))
  rw [hbf, hb]
  simp only [Option.bind_some, Bool.not_false]
  refine Ev.succ ?_
  simp only [spec_l29Put.j1, rdB_at l p h, w64_succ h (by omega : l.length ≤ _), Option.bind_some]
  refine Ev.pos trivial (Ev.pos (by omega) (Ev.pos (by omega) (Ev.pos (by omega) (Ev.pos (by rw [h0]) (Ev.pos (by rw [h1]) h2)))))
theorem l29Put_new (l : List Blk) (t : Blk) (hl : l.length ≤ 1048576) (p : Nat) (hp : PlaceB l t p) (hk : ∀ j (h : j < l.length), ¬ (l[j].f0 = t.f0 ∧ l[j].f1 = t.f1)) :
    Ev (fun k => spec_l29Put.f k l t.f0 t.f1 t.f2) (putAt l t p p) := by
  have hk2 : ∀ j (h : j < l.length), ¬ keq l[j] t := fun j h e => hk j h ⟨bytes_ext e.1, bytes_ext e.2⟩
  simp only [spec_l29Put.f]
  refine l29Put_walk l t hl p hp _ ?_ p 0 (by omega)
  have hpl := hp.le
  have hal : (l.take p).length = p := by rw [List.length_take]; omega
  refine Ev.succ ?_
  simp only [spec_l29Put.l0]
  by_cases h : p < l.length
  · have h2 := Ev.to (l29Put_done l t hl (l.length - (p + 1)) (p + 1) (l.take p ++ [t] ++ [l[p]]) (by omega) (by simp; omega) (fun j hj _ => hk2 j hj)) (show _ = putAt l t p p by
      rw [putAt, List.drop_eq_getElem_cons h]
      simp)
    have hbf : spec_l29Before.f l (p : Int) [(⟨t.f0, t.f1, t.f2⟩ : Blk)] 0 = some (blkLt l[p] t) := l29Before_eq l [t] p 0 h (by simp)
    have hb := hp.above p h (Nat.le_refl _)
    have hkn := hk2 p h
    have hlen : (l.take p ++ [t]).length = p + 1 := by simp; omega
    refine Ev.pos (by omega) (Ev.neg (by decide) (Ev.pos (by omega) ?_))
    rw [hbf, hb]
    simp only [Option.bind_some, Bool.not_false]
    refine Ev.succ ?_
    simp only [spec_l29Put.j1, rdB_at l p h, w64_succ h (by omega : l.length ≤ _), Option.bind_some]
    refine Ev.pos trivial (Ev.pos (by omega) (Ev.pos (by omega) (Ev.pos (by omega) ?_)))
    by_cases c1 : l[p].f0.toList = t.f0.toList
    · exact Ev.pos c1 (Ev.neg (fun c2 => hkn ⟨c1, c2⟩) (Ev.pos (Nat.lt_of_le_of_lt (Nat.le_of_eq hlen) (by omega)) h2))
    · exact Ev.neg c1 (Ev.pos (Nat.lt_of_le_of_lt (Nat.le_of_eq hlen) (by omega)) h2)
  · have e : p = l.length := by omega
    subst e
    refine Ev.neg (by omega) (Ev.neg (by decide) (Ev.pos (by omega) (Ev.to (Ev.now _) ?_)))
    simp [putAt]
theorem cloneB_eq' (l : List Blk) (h : l.length ≤ 1048576) : impl_Block_76.f l = some l := by
  simp only [impl_Block_76.f, Option.bind_some, List.nil_append, List.length_nil, Nat.zero_add]
  rw [if_pos (by omega)]
theorem insertB_eq (l : List Blk) (t : Blk) (p : Nat) (h : p ≤ l.length) (hl : l.length ≤ 1048576) : impl_Block_113.f l (p : Int) [t] = some (putAt l t p p) := by
  unfold impl_Block_113.f putAt
  rw [if_pos ⟨by omega, by omega, by simp, hl⟩, Int.toNat_natCast, List.append_assoc, List.singleton_append]
theorem blkLt_tri {a b : Blk} (h : blkLt a b = false) (hk : ¬ (a.f0 = b.f0 ∧ a.f1 = b.f1)) : blkLt b a = true := by
  rw [blkLt_iff]
  have h' : ¬ (Op.bytesLess a.f0.toList b.f0.toList = true ∨ (a.f0.toList = b.f0.toList ∧ Op.bytesLess a.f1.toList b.f1.toList = true)) := fun e => by
    rw [← blkLt_iff, h] at e
    exact absurd e (by decide)
  rcases bl_tri a.f0.toList b.f0.toList with e | e | e
  · exact absurd (.inl e) h'
  · rcases bl_tri a.f1.toList b.f1.toList with f | f | f
    · exact absurd (.inr ⟨e, f⟩) h'
    · exact absurd ⟨bytes_ext e, bytes_ext f⟩ hk
    · exact .inr ⟨e.symm, f⟩
  · exact .inl e
theorem sorted_iff (l : List Blk) : SortedB l ↔ l.Pairwise (fun a b => blkLt a b = true) := by
  rw [List.pairwise_iff_getElem]
  exact ⟨fun h i j hi hj hij => h i j hi hj hij, fun h i j hi hj hij => h i j hi hj hij⟩
theorem putAt_sorted (l : List Blk) (t : Blk) (hs : SortedB l) (p q : Nat) (hp : PlaceB l t p) (hpq : p ≤ q) (ha : ∀ j (h : j < l.length), q ≤ j → blkLt t l[j] = true) : SortedB (putAt l t p q) := by
  have hw := (sorted_iff l).1 hs
  rw [sorted_iff]
  unfold putAt
  rw [List.pairwise_append, List.pairwise_cons]
  refine ⟨hw.sublist (List.take_sublist _ _), ⟨fun b hb => ?_, hw.sublist (List.drop_sublist _ _)⟩, fun a ha' b hb => ?_⟩
  · obtain ⟨j, hj, rfl⟩ := List.mem_iff_getElem.1 hb
    rw [List.getElem_drop]
    exact ha _ _ (by omega)
  · obtain ⟨i, hi, rfl⟩ := List.mem_iff_getElem.1 ha'
    rw [List.length_take] at hi
    rw [List.getElem_take]
    rcases List.mem_cons.1 hb with rfl | hb
    · exact hp.below i (by omega) (by omega)
    · obtain ⟨j, hj, rfl⟩ := List.mem_iff_getElem.1 hb
      rw [List.length_drop] at hj
      rw [List.getElem_drop]
      exact hs i (q + j) (by omega) (by omega) (by omega)
theorem put_both (l : List Blk) (t : Blk) (hs : SortedB l) (hl : l.length ≤ 1048576) :
    ∃ r : List Blk, SortedB r ∧ r.length ≤ l.length + 1 ∧ (∀ b ∈ r, b = t ∨ b ∈ l) ∧ Ev (fun k => spec_l29Put.f k l t.f0 t.f1 t.f2) r ∧ Ev (fun k => impl_withBlock.f k l t.f0 t.f1 t.f2) r := by
  have mem : ∀ p q, ∀ b ∈ putAt l t p q, b = t ∨ b ∈ l := fun p q b hb => by
    unfold putAt at hb
    rcases List.mem_append.1 hb with hb | hb
    · exact .inr (List.mem_of_mem_take hb)
    · rcases List.mem_cons.1 hb with hb | hb
      · exact .inl hb
      · exact .inr (List.mem_of_mem_drop hb)
  obtain ⟨p, hp, ⟨h, h0, h1, h2, _⟩ | ⟨hk, h2, _⟩⟩ := find_both l t hs hl
  · refine ⟨putAt l t p (p + 1), putAt_sorted l t hs p (p + 1) hp (by omega) (fun j hj hij => ?_), ?_, mem _ _, l29Put_same l t hl hs p hp h h0 h1, ?_⟩
    · have h3 := hs p j h hj (by omega)
      unfold blkLt at h3 ⊢
      rw [h0, h1] at h3
      exact h3
    · simp [putAt]
      omega
    · simp only [impl_withBlock.f]
      refine Ev.bind h2 (Ev.bind (Ev.const (cloneB_eq' l hl)) (Ev.pos rfl (Ev.pos (by omega) (Ev.pos (by omega) (Ev.to (Ev.now _) ?_)))))
      rw [Int.toNat_natCast, List.set_eq_take_append_cons_drop, if_pos h]
      rfl
  · refine ⟨putAt l t p p, putAt_sorted l t hs p p hp (Nat.le_refl _) (fun j hj hij => blkLt_tri (hp.above j hj hij) (hk j hj)), ?_, mem _ _, l29Put_new l t hl p hp hk, ?_⟩
    · have := hp.le
      simp [putAt]
      omega
    · simp only [impl_withBlock.f]
      exact Ev.bind h2 (Ev.bind (Ev.const (cloneB_eq' l hl)) (Ev.neg (by simp) (Ev.bind (Ev.const (insertB_eq l t p hp.le hl)) (Ev.now _))))
end Go.Proofs.Ytpdggpfobbkdnaa.A
end
section
namespace Go.Proofs.Ytpdggpfobbkdnaa.A
open Go.RowKit Go.Proofs.YtpdggpfobbkdnaaW.PrintWords Go.Proofs.YtpdggpfobbkdnaaW.PrintLast
theorem markBlockS_any (n m : Nat) (hl : n ≤ 1048576) (hm : m ≤ 1000000000000) : ∀ (d i : Nat) (x : List Blk), i + d = n → x.length = n →
    ∃ y, Ev (fun k => laws_markBlockS.l0 k x ((3 * i + m : Nat) : Int) i) (((3 * n + m : Nat) : Int), y) := by
  intro d
  induction d with
  | zero =>
    intro i x hi hx
    obtain rfl : i = n := by omega
    refine ⟨x, Ev.succ ?_⟩
    simp only [laws_markBlockS.l0]
    exact Ev.neg (by omega) (Ev.now _)
  | succ d ih =>
    intro i x hi hx
    have hlt : i < x.length := by omega
    obtain ⟨y, hy⟩ := ih (i + 1) (x.set i ⟨mt (3 * i + m), mt (3 * i + m + 1), mt (3 * i + m + 2)⟩) (by omega) (by simpa using hx)
    refine ⟨y, Ev.succ ?_⟩
    simp only [laws_markBlockS.l0]
    rw [w64_num (b := 3 * i + m + 1) (by omega) (by omega), w64_num (a := 3 * i + m + 1) (b := 3 * i + m + 2) (by omega) (by omega), w64_num (a := 3 * i + m + 2) (b := 3 * (i + 1) + m) (by omega) (by omega), w64_succ hlt (by omega), Int.toNat_natCast]
    have hb : ∀ (y : List Blk) (b : Blk), y.length = n → rd_T69 (y.set i b) (i : Int) = b := fun y b hy => by
      rw [rdB_at _ i (by rw [List.length_set]; omega), List.getElem_set_self]
    refine Ev.pos (by omega) (Ev.bind (mt_ev (3 * i + m) (by omega)) (Ev.pos (by omega) ?_))
    simp only [Option.bind_some]
    refine Ev.bind (mt_ev (3 * i + m + 1) (by omega)) ?_
    simp only [hb x _ hx]
    refine Ev.bind (mt_ev (3 * i + m + 2) (by omega)) ?_
    simp only [List.set_set, hb x _ hx]
    exact hy
theorem markBlockS_from (l : List Blk) (m : Nat) (hl : l.length ≤ 1048576) (hm : m ≤ 1000000000000) : ∃ y, Ev (fun k => laws_markBlockS.f k l (m : Int)) (((3 * l.length + m : Nat) : Int), y) := by
  obtain ⟨y, hy⟩ := markBlockS_any l.length m hl hm l.length 0 l (by omega) rfl
  refine ⟨y, ?_⟩
  simp only [laws_markBlockS.f]
  rw [Nat.mul_zero, Nat.zero_add] at hy
  exact hy
def mergeEnd (r : List Blk) : List Blk × Int := if (r.length : Int) > 32 then ([], 5) else (r, 0)
theorem Merge_l0 (b : List Blk) (hb : b.length ≤ 1048576) : ∀ (d i : Nat) (acc : List Blk), i + d = b.length → SortedB acc → acc.length + d ≤ 1048576 →
    ∃ r : List Blk, Ev (fun k => spec_MergeBlocks.l0 k b acc i) (mergeEnd r) ∧ Ev (fun k => impl_MergeBlocks.l0 k acc b (b.length : Int) i) (mergeEnd r) := by
  intro d
  induction d with
  | zero =>
    intro i acc hi hs hl
    refine ⟨acc, Ev.succ ?_, Ev.succ ?_⟩
    · simp only [spec_MergeBlocks.l0]
      refine Ev.neg (by omega) ?_
      unfold mergeEnd
      by_cases h : (acc.length : Int) > 32
      · rw [if_pos h, if_pos h]
        exact Ev.now _
      · rw [if_neg h, if_neg h]
        exact Ev.now _
    · simp only [impl_MergeBlocks.l0]
      refine Ev.neg (by omega) ?_
      unfold mergeEnd
      by_cases h : (acc.length : Int) > 32
      · rw [if_pos h, if_pos h]
        exact Ev.now _
      · rw [if_neg h, if_neg h]
        exact Ev.now _
  | succ d ih =>
    intro i acc hi hs hl
    have hlt : i < b.length := by omega
    obtain ⟨a2, hs2, hl2, _, h1, h2⟩ := put_both acc b[i] hs (by omega)
    obtain ⟨r, g1, g2⟩ := ih (i + 1) a2 (by omega) hs2 (by omega)
    refine ⟨r, Ev.succ ?_, Ev.succ ?_⟩
    · simp only [spec_MergeBlocks.l0, rdB_at b i hlt, w64_succ hlt (by omega : b.length ≤ _)]
      exact Ev.pos (by omega) (Ev.pos (by omega) (Ev.bind h1 g1))
    · simp only [impl_MergeBlocks.l0, rdB_at b i hlt, w64_succ hlt (by omega : b.length ≤ _)]
      exact Ev.pos (by omega) (Ev.pos (by omega) (Ev.pos (by omega) (Ev.bind h2 g2)))
theorem MergeBlocks_ev (l m : List Blk) (hl : l.length ≤ 1048576) (hf : ∀ x ∈ l, BFit x) (hm : m.length ≤ 1048576) (hg : ∀ x ∈ m, BFit x) :
    ∃ (r : List Blk) (c : Int), r.length ≤ 1048576 ∧ Ev (fun k => spec_MergeBlocks.f k l m) (r, c) ∧ Ev (fun k => impl_MergeBlocks.f k l m) (r, c) := by
  have ha := l29Ok_ev l (by omega) hf
  have hb := ValidBlocks_ev l (by omega) hf
  have hc := l29Ok_ev m (by omega) hg
  have hd := ValidBlocks_ev m (by omega) hg
  simp only [spec_MergeBlocks.f, impl_MergeBlocks.f]
  cases hr : blksOk l with
  | true =>
    rw [hr] at ha hb
    obtain ⟨hs, h32, _⟩ := blksOk_sorted hr
    cases ho : blksOk m with
    | true =>
      rw [ho] at hc hd
      obtain ⟨_, h32m, _⟩ := blksOk_sorted ho
      obtain ⟨r, g1, g2⟩ := Merge_l0 m hm m.length 0 l (by omega) hs (by omega)
      refine ⟨(mergeEnd r).1, (mergeEnd r).2, ?_, Ev.bind ha (Ev.pos rfl (Ev.bind hc (Ev.succ ?_))), Ev.bind hb (Ev.pos rfl (Ev.bind hd (Ev.succ ?_)))⟩
      · unfold mergeEnd
        split
        · simp
        · simp only
          omega
      · simp only [spec_MergeBlocks.j0, Bool.not_true, Option.bind_some, List.nil_append, List.length_nil, Nat.zero_add]
        exact Ev.neg (by decide) (Ev.pos (by omega) g1)
      · simp only [impl_MergeBlocks.j0, Bool.not_true]
        exact Ev.neg (by decide) (Ev.bind (Ev.const (cloneB_eq' l hl)) g2)
    | false =>
      rw [ho] at hc hd
      refine ⟨[], 1, by simp, Ev.bind ha (Ev.pos rfl (Ev.bind hc (Ev.succ ?_))), Ev.bind hb (Ev.pos rfl (Ev.bind hd (Ev.succ ?_)))⟩
      · simp only [spec_MergeBlocks.j0, Bool.not_false]
        exact Ev.pos trivial (Ev.now _)
      · simp only [impl_MergeBlocks.j0, Bool.not_false]
        exact Ev.pos trivial (Ev.now _)
  | false =>
    rw [hr] at ha hb
    refine ⟨[], 1, by simp, Ev.bind ha (Ev.neg (by decide) (Ev.succ ?_)), Ev.bind hb (Ev.neg (by decide) (Ev.succ ?_))⟩
    · simp only [spec_MergeBlocks.j0]
      exact Ev.pos trivial (Ev.now _)
    · simp only [impl_MergeBlocks.j0]
      exact Ev.pos trivial (Ev.now _)
theorem FnExactMergeBlocks : laws_FnExactMergeBlocks.Pure := by
  rintro l m ⟨hl, hs⟩ ⟨hm, hn⟩
  refine Ev.rounds (g := fun k => laws_FnExactMergeBlocks.f k l m) ?_
  simp only [laws_FnExactMergeBlocks.f]
  obtain ⟨t, ht, ht1, hsz⟩ := szBlockS_ev l hl hs
  refine Ev.bind ht ?_
  by_cases hneg : t < 0
  · exact Ev.pos hneg (Ev.now _)
  refine Ev.neg hneg ?_
  obtain ⟨hl1, hs1⟩ := hsz (by omega)
  obtain ⟨t2, ht2, _, hsz2⟩ := szBlockS_from m t (by omega) ht1 hm hn
  refine Ev.bind ht2 ?_
  by_cases hneg2 : t2 < 0
  · exact Ev.pos hneg2 (Ev.now _)
  refine Ev.neg hneg2 ?_
  obtain ⟨hm1, hn1⟩ := hsz2 (by omega)
  have hto := toBlockS_ev l hl1
  have hto2 := toBlockS_ev m hm1
  have hln : (l.map convB).length ≤ 1048576 := by rw [List.length_map]; exact hl1
  have hmn : (m.map convB).length ≤ 1048576 := by rw [List.length_map]; exact hm1
  have hf := fit_map l 1048576 (by omega) hs1
  have hg := fit_map m 1048576 (by omega) hn1
  obtain ⟨r, c, hr, h1, h2⟩ := MergeBlocks_ev (l.map convB) (m.map convB) hln hf hmn hg
  have he := eqBlockS_ev r (by omega)
  obtain ⟨y, hy⟩ := markBlockS_from (m.map convB) (3 * (l.map convB).length + 1) hmn (by omega)
  refine Ev.bind hto (Ev.bind hto2 (Ev.bind h1 (Ev.bind hto (Ev.bind hto2 (Ev.bind h2 (Ev.bind he (Ev.pos rfl (Ev.succ ?_))))))))
  simp only [laws_FnExactMergeBlocks.j0, bne_self_eq_false]
  refine Ev.neg (by decide) (Ev.bind hto (Ev.bind (eqBlockS_ev _ (by omega)) (Ev.pos rfl (Ev.bind hto2 (Ev.bind (eqBlockS_ev _ (by omega)) (Ev.pos rfl (Ev.bind (markBlockS_ev _ hln) (Ev.bind hy (Ev.neg (by omega) (Ev.bind he (Ev.pos rfl (Ev.succ ?_))))))))))))
  simp only [laws_FnExactMergeBlocks.j1]
  refine Ev.neg (by decide) (Ev.bind (markBlockS_ev r hr) (Ev.bind (heldBlockS_ev r.length hr) (Ev.neg (by omega) (Ev.pos rfl (Ev.bind hto (Ev.bind hto2 (Ev.bind h2 (Ev.bind he (Ev.pos rfl (Ev.succ ?_))))))))))
  simp only [laws_FnExactMergeBlocks.j2, bne_self_eq_false]
  exact Ev.neg (by decide) (Ev.bind (heldBlockS_ev r.length hr) (Ev.neg (by omega) (Ev.pos rfl (Ev.now _))))
end Go.Proofs.Ytpdggpfobbkdnaa.A
end
section
namespace Go.Proofs.Ytpdggpfobbkdnaa.Open
open Go.ChangeShapes Go.WideShapes Go.Deep Go.RowKit Go.Proofs.YtpdggpfobbkdnaaW.PrintWords
structure Opens {α : Type} (P : Program) (t : TypeId) (d : Kd α) (wf : α → Prop) : Prop where
  out : ∀ {H : Type} {enc : TypeId × Value → H} {w : World} {base : Nat} {spare : Nat → Bool} {held : Bool} {fuel : Nat} {cs : List Value} {x : DataW H × List MemPlace},
    DataW.trod enc P w base spare held fuel t cs = some x → ∃ v : α, d.K w v cs ∧ wf v
theorem opens_string {P : Program} {t : TypeId} (ht : P.underlying t = some .string) : Opens P t Kd.string (fun s => s.size ≤ maxLen) := by
  refine ⟨?_⟩
  intro H enc w base spare held fuel cs x h
  obtain ⟨s, rfl, _, hw⟩ := DataW.trod_string ht h
  exact ⟨s, rfl, hw⟩
theorem opens_slice {α : Type} {P : Program} {t e : TypeId} {d : Kd α} {wf : α → Prop} (ht : P.underlying t = some (.slice e)) (hd : Opens P e d wf) (hc : P.cellsOf e = d.sz) :
    Opens P t (Kd.slice e d) (fun l => l.length ≤ maxLen ∧ ∀ x ∈ l, wf x) := by
  refine ⟨?_⟩
  intro H enc w base spare held fuel cs x h
  rcases open_slice ht h with ⟨rfl, _⟩ | ⟨a, len, cap, m, n, D, Pl, rfl, _, hl, hm, hmm, _, hi⟩
  · exact ⟨[], ⟨none, 0, rfl, Nat.le_refl _, ⟨rfl, by simp, fun h => absurd h (by simp)⟩⟩, by simp⟩
  · have hlm : len ≤ m := by
      rw [hmm]
      split
      · exact hl
      · exact Nat.le_refl _
    have each : ∀ i, i < len → ∃ v : α, (∃ cs', w.cells? base (a.add (i * d.sz)) d.sz = some cs' ∧ d.K w v cs') ∧ wf v := by
      intro i hil
      obtain ⟨cs', h1, h2⟩ := hi i (by omega)
      obtain ⟨v, h3, h4⟩ := hd.out h2
      rw [hc] at h1
      exact ⟨v, ⟨cs', h1, h3⟩, h4⟩
    have all : ∀ k, k ≤ len → ∃ l : List α, l.length = k ∧ ∀ i v, l[i]? = some v → (∃ cs', w.cells? base (a.add (i * d.sz)) d.sz = some cs' ∧ d.K w v cs') ∧ wf v := by
      intro k
      induction k with
      | zero => exact fun _ => ⟨[], rfl, fun i v h => by simp at h⟩
      | succ k ih =>
        intro hk
        obtain ⟨l, hl1, hl2⟩ := ih (by omega)
        obtain ⟨v, hv⟩ := each k (by omega)
        refine ⟨l ++ [v], by simp [hl1], fun i u hu => ?_⟩
        by_cases hik : i < k
        · rw [List.getElem?_append_left (by omega)] at hu
          exact hl2 i u hu
        · have hlt := (List.getElem?_eq_some_iff.1 hu).1
          simp [hl1] at hlt
          obtain rfl : i = k := by omega
          rw [List.getElem?_append_right (by omega), hl1, Nat.sub_self] at hu
          simp at hu
          subst hu
          exact hv
    obtain ⟨l, hl1, hl2⟩ := all len (Nat.le_refl _)
    refine ⟨l, ⟨some a, cap, by rw [hl1], by omega, ⟨rfl, by unfold maxLen at hm; omega, fun _ => ⟨a, rfl, fun j p hp => ?_⟩⟩⟩, by omega, fun x hx => ?_⟩
    · obtain ⟨⟨cs', hcs, hK⟩, _⟩ := hl2 j p hp
      obtain ⟨_, hcl, hat⟩ := World.cells?_some hcs
      refine ⟨cs', d.K_len hK, hK, fun i u hu => ?_⟩
      have hlt := (List.getElem?_eq_some_iff.1 hu).1
      have := hat i (by omega)
      rw [← Go.Deep.add_add, this, hu]
    · obtain ⟨i, hi'⟩ := List.getElem?_of_mem hx
      exact (hl2 i x hi').2
structure OpensF {α : Type} (P : Program) (fs : Array Field) (off tot : Nat) (d : Kd α) (wf : α → Prop) : Prop where
  out : ∀ {H : Type} {enc : TypeId × Value → H} {w : World} {base : Nat} {spare : Nat → Bool} {held : Bool} {n : Nat} {cs : List Value}, cs.length = tot →
    (∀ (j : Nat) (f : Field), fs[j]? = some f → ∃ y, DataW.trod enc P w base spare held n f.type ((cs.drop f.offset).take (P.cellsOf f.type)) = some y) → ∃ v : α, d.K w v (cs.drop off) ∧ wf v
theorem opensF_last {α : Type} {P : Program} {fs : Array Field} {off tot : Nat} {d : Kd α} {wf : α → Prop} (i : Nat) (f : Field) (hf : fs[i]? = some f) (ho : f.offset = off) (ht : off + P.cellsOf f.type = tot) (hd : Opens P f.type d wf) :
    OpensF P fs off tot d wf := by
  refine ⟨?_⟩
  intro H enc w base spare held n cs hl h
  obtain ⟨y, hy⟩ := h i f hf
  rw [ho, List.take_of_length_le (by rw [List.length_drop]; omega)] at hy
  exact hd.out hy
theorem opensF_cons {α β : Type} {P : Program} {fs : Array Field} {off tot : Nat} {d : Kd α} {wf : α → Prop} {d' : Kd β} {wf' : β → Prop} (i : Nat) (f : Field) (hf : fs[i]? = some f) (ho : f.offset = off) (hd : Opens P f.type d wf) (off' : Nat) (hoff : off + P.cellsOf f.type = off')
    (hr : OpensF P fs off' tot d' wf') : OpensF P fs off tot (Kd.pair d d') (fun p => wf p.1 ∧ wf' p.2) := by
  refine ⟨?_⟩
  intro H enc w base spare held n cs hl h
  obtain ⟨y, hy⟩ := h i f hf
  rw [ho] at hy
  obtain ⟨v, hv, hw⟩ := hd.out hy
  obtain ⟨v', hv', hw'⟩ := hr.out hl h
  refine ⟨(v, v'), ⟨_, _, ?_, hv, hv'⟩, hw, hw'⟩
  rw [← hoff, ← List.drop_drop, List.take_append_drop]
theorem opens_struct {α β : Type} {P : Program} {t : TypeId} {fs : Array Field} {tot : Nat} {d : Kd α} {wf : α → Prop} (f : β → α) (g : α → β) (hfg : ∀ x, f (g x) = x) (ht : P.underlying t = some (.struct fs)) (hc : P.cellsOf t = tot) (h : OpensF P fs 0 tot d wf) :
    Opens P t (Kd.iso d f) (fun b => wf (f b)) := by
  refine ⟨?_⟩
  intro H enc w base spare held fuel cs x hx
  obtain ⟨xs, n, _, _, hlen, hsz, hat⟩ := DataW.trod_struct ht hx
  obtain ⟨v, hv, hw⟩ := h.out (w := w) (enc := enc) (base := base) (spare := spare) (held := held) (n := n) (cs := cs) (hlen.trans hc) (fun j fl hj => by
    have hlt : j < xs.length := by
      have := (Array.getElem?_eq_some_iff.1 hj).1
      omega
    exact ⟨xs[j], (hat j fl hj).trans (List.getElem?_eq_getElem hlt)⟩)
  refine ⟨g v, ?_, ?_⟩
  · show d.K w (f (g v)) cs
    rw [hfg]
    exact hv
  · show wf (f (g v))
    rw [hfg]
    exact hw
theorem arg_slice {α H : Type} {enc : TypeId × Value → H} {P : Program} {W : World} {base : Nat} {spare : Nat → Bool} {held : Bool} {t e : TypeId} {d : Kd α} {wf : List α → Prop} {a : Option Addr} {len cap : Nat} {x : DataW H} {ps : List MemPlace}
    (ho : Opens P t (Kd.slice e d) wf) (h : DataW.Trod enc P W base spare held t (.slice a len cap) x ps) :
    ∃ l : List α, len = l.length ∧ l.length ≤ cap ∧ Kd.C d W a l.length l ∧ wf l := by
  obtain ⟨fuel, hf⟩ := h
  obtain ⟨l, ⟨A, c, hcs, hl, hC⟩, hw⟩ := ho.out hf
  simp [Value.cells] at hcs
  obtain ⟨rfl, rfl, rfl⟩ := hcs
  exact ⟨l, rfl, hl, hC, hw⟩
end Go.Proofs.Ytpdggpfobbkdnaa.Open
end
