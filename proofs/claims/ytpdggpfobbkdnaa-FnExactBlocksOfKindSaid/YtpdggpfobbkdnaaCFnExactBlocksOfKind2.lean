/- Part 3 of the proof of FnExactBlocksOfKindSaid: the functions that the law runs as plain Lean functions, the contracts of their calls, and plain facts about them. Condition: none beyond each theorem's own hypotheses. -/
import Derived.Test.YtpdggpfobbkdnaaCFnExactBlocksOfKind0
import Derived.Test.YtpdggpfobbkdnaaWWords
import Derived.Test.YtpdggpfobbkdnaaWLast
import Derived.Test.YtpdggpfobbkdnaaWTab
import Derived.Test.YtpdggpfobbkdnaaWFour
import Derived.Test.YtpdggpfobbkdnaaWQPut
import Derived.Test.YtpdggpfobbkdnaaWApart
import Derived.Test.YtpdggpfobbkdnaaWArr
import Derived.Test.YtpdggpfobbkdnaaWZeros
import Derived.Test.YtpdggpfobbkdnaaWFoot
import Derived.Test.YtpdggpfobbkdnaaWKept
import Derived.Test.YtpdggpfobbkdnaaWShare
import Derived.Test.YtpdggpfobbkdnaaWN
import Derived.Test.YtpdggpfobbkdnaaWFootNe
import Derived.Test.YtpdggpfobbkdnaaWAt
import Derived.Test.YtpdggpfobbkdnaaWEqStruct
import Derived.Test.YtpdggpfobbkdnaaWRepsOne
import Derived.Test.YtpdggpfobbkdnaaWInv
import Derived.Test.YtpdggpfobbkdnaaWInvWords
import Derived.Test.YtpdggpfobbkdnaaWGuard
import Derived.Test.YtpdggpfobbkdnaaWNEv
import Derived.Test.YtpdggpfobbkdnaaWMore
import Derived.Lib.IndexMore
import Derived.Lib.IndexAny
import Derived.Lib.IndexBytes
import Derived.Deep.Slices
import Derived.Deep.Fields
import Derived.ChangeSame
import Derived.ProofKit
import Derived.Test.YtpdggpfobbkdnaaCFnExactBlocksOfKind1
namespace Go.Proofs.Ytpdggpfobbkdnaa.A
open Go.RowKit Go.Proofs.YtpdggpfobbkdnaaW.PrintWords Go.Proofs.YtpdggpfobbkdnaaW.PrintLast Go.Proofs.YtpdggpfobbkdnaaW.PrintMore
attribute [local go_sem] max2_int min2_int max_two min_two max_three min_three max_four min_four   -- for this text's walks alone
set_option linter.unusedVariables false
set_option linter.unusedSimpArgs false

/-! ### laws_FnExactBlocksOfKind: function 7 -/
mutual
def laws_FnExactBlocksOfKind.j0 : Nat → List (S66) → ByteArray → List ByteArray → Int → List (S69) → List ByteArray → Int → Bool → Option (Bool)
  | 0, _, _, _, _, _, _, _, _ => none
  | k + 1, x0, x1, x6, x7, x8, x9, x10, x47 => if x47 = true then (some false) else ((laws_toBlockS.f k x0).bind fun t117 => ((laws_eqBlockS.f k x8 t117).bind fun t120 => (if t120 = true then ((laws_markBlockS.f k x8 1).bind fun bt121 => (if bt121.1 < 0 then (laws_FnExactBlocksOfKind.j1 k x0 x1 x6 x7 x9 true) else ((laws_eqStringS.f k x9 x6).bind fun t123 => (if t123 = true then (laws_FnExactBlocksOfKind.j1 k x0 x1 x6 x7 x9 (x10 != x7)) else (laws_FnExactBlocksOfKind.j1 k x0 x1 x6 x7 x9 true))))) else (some false))))
def laws_FnExactBlocksOfKind.j1 : Nat → List (S66) → ByteArray → List ByteArray → Int → List ByteArray → Bool → Option (Bool)
  | 0, _, _, _, _, _, _ => none
  | k + 1, x0, x1, x6, x7, x9, x68 => if x68 = true then (some false) else ((laws_markStringS.f k x9 1).bind fun bt124 => ((laws_heldStringS.f k bt124.2 1).bind fun t126 => (if t126 < 0 then (some false) else (if t126 = bt124.1 then ((laws_toBlockS.f k x0).bind fun t127 => ((impl_BlocksOfKind.f k t127 x1).bind fun bt130 => ((laws_eqStringS.f k bt130.1 x6).bind fun t134 => (if t134 = true then (laws_FnExactBlocksOfKind.j2 k bt124.2 bt124.1 (bt130.2 != x7)) else (laws_FnExactBlocksOfKind.j2 k bt124.2 bt124.1 true))))) else (some false)))))
def laws_FnExactBlocksOfKind.j2 : Nat → List ByteArray → Int → Bool → Option (Bool)
  | 0, _, _, _ => none
  | k + 1, x9, x12, x95 => if x95 = true then (some false) else ((laws_heldStringS.f k x9 1).bind fun t135 => (if t135 < 0 then (some false) else (if t135 = x12 then (some true) else (some false))))
end
def laws_FnExactBlocksOfKind.f (k : Nat) (l0 : List (S66)) (a1 : ByteArray) : Option (Bool) := if (a1.size : Int) > 1048576 then (some true) else ((laws_szBlockS.f k l0 1048576).bind fun t101 => (if t101 < 0 then (some true) else ((laws_toBlockS.f k l0).bind fun t102 => ((spec_BlocksOfKind.f k t102 a1).bind fun bt105 => ((laws_toBlockS.f k l0).bind fun t109 => ((impl_BlocksOfKind.f k t109 a1).bind fun bt112 => ((laws_eqStringS.f k bt112.1 bt105.1).bind fun t116 => (if t116 = true then (laws_FnExactBlocksOfKind.j0 k l0 a1 bt105.1 bt105.2 t109 bt112.1 bt112.2 (bt112.2 != bt105.2)) else (laws_FnExactBlocksOfKind.j0 k l0 a1 bt105.1 bt105.2 t109 bt112.1 bt112.2 true)))))))))
theorem laws_FnExactBlocksOfKind.mono_l : ∀ k, (∀ y0 y1 y2 y3 y4 y5 y6 y7, LeO (laws_FnExactBlocksOfKind.j0 k y0 y1 y2 y3 y4 y5 y6 y7) (laws_FnExactBlocksOfKind.j0 (k + 1) y0 y1 y2 y3 y4 y5 y6 y7)) ∧ (∀ y0 y1 y2 y3 y4 y5, LeO (laws_FnExactBlocksOfKind.j1 k y0 y1 y2 y3 y4 y5) (laws_FnExactBlocksOfKind.j1 (k + 1) y0 y1 y2 y3 y4 y5)) ∧ (∀ y0 y1 y2, LeO (laws_FnExactBlocksOfKind.j2 k y0 y1 y2) (laws_FnExactBlocksOfKind.j2 (k + 1) y0 y1 y2))
  | 0 => ⟨fun _ _ _ _ _ _ _ _ r h => by simp [laws_FnExactBlocksOfKind.j0] at h, fun _ _ _ _ _ _ r h => by simp [laws_FnExactBlocksOfKind.j1] at h, fun _ _ _ r h => by simp [laws_FnExactBlocksOfKind.j2] at h⟩
  | k + 1 => by
    obtain ⟨ih0, ih1, ih2⟩ := laws_FnExactBlocksOfKind.mono_l k
    refine ⟨?_, ?_, ?_⟩
    · intro y0 y1 y2 y3 y4 y5 y6 y7
      unfold laws_FnExactBlocksOfKind.j0
      repeat' first
      | (with_reducible exact ih0 _ _ _ _ _ _ _ _)
      | (with_reducible exact ih1 _ _ _ _ _ _)
      | (with_reducible exact ih2 _ _ _)
      | (with_reducible exact impl_BlocksOfKind.mono _ _ _)
      | (with_reducible exact laws_eqBlockS.mono _ _ _)
      | (with_reducible exact laws_eqStringS.mono _ _ _)
      | (with_reducible exact laws_heldStringS.mono _ _ _)
      | (with_reducible exact laws_markBlockS.mono _ _ _)
      | (with_reducible exact laws_markStringS.mono _ _ _)
      | (with_reducible exact laws_szBlockS.mono _ _ _)
      | (with_reducible exact laws_toBlockS.mono _ _)
      | (with_reducible exact spec_BlocksOfKind.mono _ _ _)
      | (with_reducible exact LeO.refl _)
      | (with_reducible exact LeO.none _)
      | (with_reducible refine LeO.ite ?_ ?_)
      | (with_reducible refine LeO.bind ?_ (fun _ => ?_))
      | exact ih0 _ _ _ _ _ _ _ _
      | exact ih1 _ _ _ _ _ _
      | exact ih2 _ _ _
      | exact impl_BlocksOfKind.mono _ _ _
      | exact laws_eqBlockS.mono _ _ _
      | exact laws_eqStringS.mono _ _ _
      | exact laws_heldStringS.mono _ _ _
      | exact laws_markBlockS.mono _ _ _
      | exact laws_markStringS.mono _ _ _
      | exact laws_szBlockS.mono _ _ _
      | exact laws_toBlockS.mono _ _
      | exact spec_BlocksOfKind.mono _ _ _
      | exact LeO.none _
      | refine LeO.ite ?_ ?_
      | refine LeO.bind ?_ (fun _ => ?_)
    · intro y0 y1 y2 y3 y4 y5
      unfold laws_FnExactBlocksOfKind.j1
      repeat' first
      | (with_reducible exact ih0 _ _ _ _ _ _ _ _)
      | (with_reducible exact ih1 _ _ _ _ _ _)
      | (with_reducible exact ih2 _ _ _)
      | (with_reducible exact impl_BlocksOfKind.mono _ _ _)
      | (with_reducible exact laws_eqBlockS.mono _ _ _)
      | (with_reducible exact laws_eqStringS.mono _ _ _)
      | (with_reducible exact laws_heldStringS.mono _ _ _)
      | (with_reducible exact laws_markBlockS.mono _ _ _)
      | (with_reducible exact laws_markStringS.mono _ _ _)
      | (with_reducible exact laws_szBlockS.mono _ _ _)
      | (with_reducible exact laws_toBlockS.mono _ _)
      | (with_reducible exact spec_BlocksOfKind.mono _ _ _)
      | (with_reducible exact LeO.refl _)
      | (with_reducible exact LeO.none _)
      | (with_reducible refine LeO.ite ?_ ?_)
      | (with_reducible refine LeO.bind ?_ (fun _ => ?_))
      | exact ih0 _ _ _ _ _ _ _ _
      | exact ih1 _ _ _ _ _ _
      | exact ih2 _ _ _
      | exact impl_BlocksOfKind.mono _ _ _
      | exact laws_eqBlockS.mono _ _ _
      | exact laws_eqStringS.mono _ _ _
      | exact laws_heldStringS.mono _ _ _
      | exact laws_markBlockS.mono _ _ _
      | exact laws_markStringS.mono _ _ _
      | exact laws_szBlockS.mono _ _ _
      | exact laws_toBlockS.mono _ _
      | exact spec_BlocksOfKind.mono _ _ _
      | exact LeO.none _
      | refine LeO.ite ?_ ?_
      | refine LeO.bind ?_ (fun _ => ?_)
    · intro y0 y1 y2
      unfold laws_FnExactBlocksOfKind.j2
      repeat' first
      | (with_reducible exact ih0 _ _ _ _ _ _ _ _)
      | (with_reducible exact ih1 _ _ _ _ _ _)
      | (with_reducible exact ih2 _ _ _)
      | (with_reducible exact impl_BlocksOfKind.mono _ _ _)
      | (with_reducible exact laws_eqBlockS.mono _ _ _)
      | (with_reducible exact laws_eqStringS.mono _ _ _)
      | (with_reducible exact laws_heldStringS.mono _ _ _)
      | (with_reducible exact laws_markBlockS.mono _ _ _)
      | (with_reducible exact laws_markStringS.mono _ _ _)
      | (with_reducible exact laws_szBlockS.mono _ _ _)
      | (with_reducible exact laws_toBlockS.mono _ _)
      | (with_reducible exact spec_BlocksOfKind.mono _ _ _)
      | (with_reducible exact LeO.refl _)
      | (with_reducible exact LeO.none _)
      | (with_reducible refine LeO.ite ?_ ?_)
      | (with_reducible refine LeO.bind ?_ (fun _ => ?_))
      | exact ih0 _ _ _ _ _ _ _ _
      | exact ih1 _ _ _ _ _ _
      | exact ih2 _ _ _
      | exact impl_BlocksOfKind.mono _ _ _
      | exact laws_eqBlockS.mono _ _ _
      | exact laws_eqStringS.mono _ _ _
      | exact laws_heldStringS.mono _ _ _
      | exact laws_markBlockS.mono _ _ _
      | exact laws_markStringS.mono _ _ _
      | exact laws_szBlockS.mono _ _ _
      | exact laws_toBlockS.mono _ _
      | exact spec_BlocksOfKind.mono _ _ _
      | exact LeO.none _
      | refine LeO.ite ?_ ?_
      | refine LeO.bind ?_ (fun _ => ?_)
theorem laws_FnExactBlocksOfKind.mono : ∀ a0 a1 k, LeO (laws_FnExactBlocksOfKind.f k a0 a1) (laws_FnExactBlocksOfKind.f (k + 1) a0 a1) := by
  intro a0 a1 k
  obtain ⟨ih0, ih1, ih2⟩ := laws_FnExactBlocksOfKind.mono_l k
  unfold laws_FnExactBlocksOfKind.f
  repeat' first
      | (with_reducible exact ih0 _ _ _ _ _ _ _ _)
      | (with_reducible exact ih1 _ _ _ _ _ _)
      | (with_reducible exact ih2 _ _ _)
      | (with_reducible exact impl_BlocksOfKind.mono _ _ _)
      | (with_reducible exact laws_eqBlockS.mono _ _ _)
      | (with_reducible exact laws_eqStringS.mono _ _ _)
      | (with_reducible exact laws_heldStringS.mono _ _ _)
      | (with_reducible exact laws_markBlockS.mono _ _ _)
      | (with_reducible exact laws_markStringS.mono _ _ _)
      | (with_reducible exact laws_szBlockS.mono _ _ _)
      | (with_reducible exact laws_toBlockS.mono _ _)
      | (with_reducible exact spec_BlocksOfKind.mono _ _ _)
      | (with_reducible exact LeO.refl _)
      | (with_reducible exact LeO.none _)
      | (with_reducible refine LeO.ite ?_ ?_)
      | (with_reducible refine LeO.bind ?_ (fun _ => ?_))
      | exact ih0 _ _ _ _ _ _ _ _
      | exact ih1 _ _ _ _ _ _
      | exact ih2 _ _ _
      | exact impl_BlocksOfKind.mono _ _ _
      | exact laws_eqBlockS.mono _ _ _
      | exact laws_eqStringS.mono _ _ _
      | exact laws_heldStringS.mono _ _ _
      | exact laws_markBlockS.mono _ _ _
      | exact laws_markStringS.mono _ _ _
      | exact laws_szBlockS.mono _ _ _
      | exact laws_toBlockS.mono _ _
      | exact spec_BlocksOfKind.mono _ _ _
      | exact LeO.none _
      | refine LeO.ite ?_ ?_
      | refine LeO.bind ?_ (fun _ => ?_)
set_option maxHeartbeats 8000000 in
set_option maxRecDepth 100000 in
theorem laws_FnExactBlocksOfKind.calls (k : Nat) (A0 : Option Addr) (c0 : Nat) (l0 : List (S66)) (a1 : ByteArray) (r : Bool) (w : World) (hr0 : Kd.C k66 w A0 l0.length l0) (hc0 : l0.length ≤ c0) (h : laws_FnExactBlocksOfKind.f k l0 a1 = some r) (hV : HasV w) :
    Calls Try.prog 7 #[.slice A0 l0.length c0, .string a1] w fun e w' => e = .returned (.bool r) ∧ Below w.heap.size w w' := by
  have HV := Aside0.mk hV
  clear hV
  have HR0 := Aside0.mk hr0
  have HC0 := Aside0.mk hc0
  clear hr0 hc0
  have HB := Aside0.mk (Below.refl w.heap.size w)
  have H : (if (a1.size : Int) > 1048576 then (some true) else ((laws_szBlockS.f k l0 1048576).bind fun t101 => (if t101 < 0 then (some true) else ((laws_toBlockS.f k l0).bind fun t102 => ((spec_BlocksOfKind.f k t102 a1).bind fun bt105 => ((laws_toBlockS.f k l0).bind fun t109 => ((impl_BlocksOfKind.f k t109 a1).bind fun bt112 => ((laws_eqStringS.f k bt112.1 bt105.1).bind fun t116 => (if t116 = true then (laws_FnExactBlocksOfKind.j0 k l0 a1 bt105.1 bt105.2 t109 bt112.1 bt112.2 (bt112.2 != bt105.2)) else (laws_FnExactBlocksOfKind.j0 k l0 a1 bt105.1 bt105.2 t109 bt112.1 bt112.2 true)))))))))) = some r := h
  clear h
  by_cases c3 : (a1.size : Int) > 1048576
  · rw [if_pos c3] at H
    have c3b0 : decide (1048576 < (a1.size : Int)) = true := decide_eq_true c3
    have c3b1 : decide (1048576 < a1.size) = true := decide_eq_true (by omega)
    clear c3
    obtain rfl := Option.some.inj H
    go_enter Try.func7, Try.ntmps7
    go_wp2
    go_ret
    exact ⟨by first | rfl | (simp [errW_none, errW_some] <;> rfl) | (simp [*, errW_none, errW_some] <;> rfl), by repeat (first | (with_reducible first | exact HB.out | apply below_alloc | apply pw_below_drewN | apply below_drew1) | exact HB.out)⟩
  · rw [if_neg c3] at H
    have c3b0 : decide (1048576 < (a1.size : Int)) = false := decide_eq_false c3
    have c3b1 : decide (1048576 < a1.size) = false := decide_eq_false (by omega)
    clear c3
    replace H := Option.bind_eq_some_iff.mp H
    obtain ⟨t101, A40, H⟩ := H
    replace H : (if t101 < 0 then (some true) else ((laws_toBlockS.f k l0).bind fun t102 => ((spec_BlocksOfKind.f k t102 a1).bind fun bt105 => ((laws_toBlockS.f k l0).bind fun t109 => ((impl_BlocksOfKind.f k t109 a1).bind fun bt112 => ((laws_eqStringS.f k bt112.1 bt105.1).bind fun t116 => (if t116 = true then (laws_FnExactBlocksOfKind.j0 k l0 a1 bt105.1 bt105.2 t109 bt112.1 bt112.2 (bt112.2 != bt105.2)) else (laws_FnExactBlocksOfKind.j0 k l0 a1 bt105.1 bt105.2 t109 bt112.1 bt112.2 true)))))))) = some r := H
    have A4 := Aside0.mk A40
    clear A40
    by_cases c5 : t101 < 0
    · rw [if_pos c5] at H
      have c5b0 : decide (t101 < 0) = true := decide_eq_true c5
      clear c5
      obtain rfl := Option.some.inj H
      go_enter Try.func7, Try.ntmps7
      go_wp2_with (first | ((with_reducible refine gate_callee (f := 23) rfl ?_); refine goesL_ (some 21) rfl rfl Try.func23 (by kernel_rfl) rfl #[.slice A0 l0.length c0, .int .i64 1048576] rfl (by (try simp only [List.map_toArray, List.map_cons, List.map_nil]); first | done | rfl | (simp only [List.length_drop, List.length_take]; rfl)) ?_; (with_reducible refine (laws_szBlockS.calls k _ _ l0 1048576 t101 _ ?side1 ?side2 A4.out).mono ?_); (case side1 => repeat (first | exact HR0.out | (with_reducible refine Kd.C_alloc ?_ _) | (with_reducible refine Kd.C_drewN ?_ _) | (with_reducible refine Kd.C_drew ?_))); (case side2 => exact HC0.out); rintro e w6 ⟨rfl, hb⟩; refine ⟨_, rfl, ?_⟩; have n0_ := Aside0.mk (below_step (by repeat (first | (with_reducible first | exact HB.out | apply below_alloc | apply pw_below_drewN | apply below_drew1) | exact HB.out)) hb); clear HB; have HB := n0_; clear n0_; (try clear hb); (try clear hb2); (try clear hk); (try clear hi)))
      go_ret
      exact ⟨by first | rfl | (simp [errW_none, errW_some] <;> rfl) | (simp [*, errW_none, errW_some] <;> rfl), by repeat (first | (with_reducible first | exact HB.out | apply below_alloc | apply pw_below_drewN | apply below_drew1) | exact HB.out)⟩
    · rw [if_neg c5] at H
      have c5b0 : decide (t101 < 0) = false := decide_eq_false c5
      clear c5
      replace H := Option.bind_eq_some_iff.mp H
      obtain ⟨t102, A70, H⟩ := H
      replace H : ((spec_BlocksOfKind.f k t102 a1).bind fun bt105 => ((laws_toBlockS.f k l0).bind fun t109 => ((impl_BlocksOfKind.f k t109 a1).bind fun bt112 => ((laws_eqStringS.f k bt112.1 bt105.1).bind fun t116 => (if t116 = true then (laws_FnExactBlocksOfKind.j0 k l0 a1 bt105.1 bt105.2 t109 bt112.1 bt112.2 (bt112.2 != bt105.2)) else (laws_FnExactBlocksOfKind.j0 k l0 a1 bt105.1 bt105.2 t109 bt112.1 bt112.2 true)))))) = some r := H
      have A7 := Aside0.mk A70
      clear A70
      replace H := Option.bind_eq_some_iff.mp H
      obtain ⟨⟨t105, t106⟩, A80, H⟩ := H
      replace H : ((laws_toBlockS.f k l0).bind fun t109 => ((impl_BlocksOfKind.f k t109 a1).bind fun bt112 => ((laws_eqStringS.f k bt112.1 t105).bind fun t116 => (if t116 = true then (laws_FnExactBlocksOfKind.j0 k l0 a1 t105 t106 t109 bt112.1 bt112.2 (bt112.2 != t106)) else (laws_FnExactBlocksOfKind.j0 k l0 a1 t105 t106 t109 bt112.1 bt112.2 true))))) = some r := H
      have A8 := Aside0.mk A80
      clear A80
      replace H := Option.bind_eq_some_iff.mp H
      obtain ⟨t109, A90, H⟩ := H
      replace H : ((impl_BlocksOfKind.f k t109 a1).bind fun bt112 => ((laws_eqStringS.f k bt112.1 t105).bind fun t116 => (if t116 = true then (laws_FnExactBlocksOfKind.j0 k l0 a1 t105 t106 t109 bt112.1 bt112.2 (bt112.2 != t106)) else (laws_FnExactBlocksOfKind.j0 k l0 a1 t105 t106 t109 bt112.1 bt112.2 true)))) = some r := H
      have A9 := Aside0.mk A90
      clear A90
      replace H := Option.bind_eq_some_iff.mp H
      obtain ⟨⟨t112, t113⟩, A100, H⟩ := H
      replace H : ((laws_eqStringS.f k t112 t105).bind fun t116 => (if t116 = true then (laws_FnExactBlocksOfKind.j0 k l0 a1 t105 t106 t109 t112 t113 (t113 != t106)) else (laws_FnExactBlocksOfKind.j0 k l0 a1 t105 t106 t109 t112 t113 true))) = some r := H
      have A10 := Aside0.mk A100
      clear A100
      have HC11 := Aside0.mk H
      clear H
      go_enter Try.func7, Try.ntmps7
      go_upto_region 10 with (first | ((with_reducible refine gate_callee (f := 23) rfl ?_); refine goesL_ (some 21) rfl rfl Try.func23 (by kernel_rfl) rfl #[.slice A0 l0.length c0, .int .i64 1048576] rfl (by (try simp only [List.map_toArray, List.map_cons, List.map_nil]); first | done | rfl | (simp only [List.length_drop, List.length_take]; rfl)) ?_; (with_reducible refine (laws_szBlockS.calls k _ _ l0 1048576 t101 _ ?side1 ?side2 A4.out).mono ?_); (case side1 => repeat (first | exact HR0.out | (with_reducible refine Kd.C_alloc ?_ _) | (with_reducible refine Kd.C_drewN ?_ _) | (with_reducible refine Kd.C_drew ?_))); (case side2 => exact HC0.out); rintro e w12 ⟨rfl, hb⟩; refine ⟨_, rfl, ?_⟩; have n0_ := Aside0.mk (below_step (by repeat (first | (with_reducible first | exact HB.out | apply below_alloc | apply pw_below_drewN | apply below_drew1) | exact HB.out)) hb); clear HB; have HB := n0_; clear n0_; (try clear hb); (try clear hb2); (try clear hk); (try clear hi)) | ((with_reducible refine gate_callee (f := 25) rfl ?_); refine goesL_ (some 26) rfl rfl Try.func25 (by kernel_rfl) rfl #[.slice A0 l0.length c0] rfl (by (try simp only [List.map_toArray, List.map_cons, List.map_nil]); first | done | rfl | (simp only [List.length_drop, List.length_take]; rfl)) ?_; (with_reducible refine (laws_toBlockS.calls k _ _ l0 t102 _ ?side1 ?side2 A7.out).mono ?_); (case side1 => repeat (first | exact (Kd.C_below HR0.out HB.out) | (with_reducible refine Kd.C_alloc ?_ _) | (with_reducible refine Kd.C_drewN ?_ _) | (with_reducible refine Kd.C_drew ?_))); (case side2 => exact HC0.out); rintro e w13 ⟨v103, rfl, ho0, hb⟩; refine ⟨_, rfl, ?_⟩; have n0_ := Aside0.mk (Kd.R_lower ho0 (below_size (by repeat (first | (with_reducible first | exact HB.out | apply below_alloc | apply pw_below_drewN | apply below_drew1) | exact HB.out)))); have n1_ := Aside0.mk (below_step (by repeat (first | (with_reducible first | exact HB.out | apply below_alloc | apply pw_below_drewN | apply below_drew1) | exact HB.out)) hb); clear HB; have HO104 := n0_; have HB := n1_; clear n0_ n1_; (try clear hb); (try clear hb2); (try clear hk); (try clear hi); (try clear ho0); obtain ⟨Ao14, co14, eo14⟩ := Kd.R_slice HO104.out; subst eo14) | ((with_reducible refine gate_callee (f := 34) rfl ?_); refine goesL_ (some 28) rfl rfl Try.func34 (by kernel_rfl) rfl #[.slice Ao14 t102.length co14, .string a1] rfl (by (try simp only [List.map_toArray, List.map_cons, List.map_nil]); first | done | rfl | (simp only [List.length_drop, List.length_take]; rfl)) ?_; (with_reducible refine (spec_BlocksOfKind.calls k _ _ t102 a1 t105 t106 _ ?side1 ?side2 A8.out).mono ?_); (case side1 => repeat (first | exact (Kd.R_reads' HO104.out).2.2 | (with_reducible refine Kd.C_alloc ?_ _) | (with_reducible refine Kd.C_drewN ?_ _) | (with_reducible refine Kd.C_drew ?_))); (case side2 => exact (Kd.R_reads' HO104.out).2.1); rintro e w15 ⟨v107, rfl, ho0, hb⟩; refine ⟨_, rfl, ?_⟩; have n0_ := Aside0.mk (Kd.R_below (by (with_reducible repeat (first | apply Kd.R_alloc | apply Kd.R_drewN | apply Kd.R_drew)); exact HO104.out) hb); have n1_ := Aside0.mk (Kd.R_lower ho0 (below_size (by repeat (first | (with_reducible first | exact HB.out | apply below_alloc | apply pw_below_drewN | apply below_drew1) | exact HB.out)))); have n2_ := Aside0.mk (below_step (by repeat (first | (with_reducible first | exact HB.out | apply below_alloc | apply pw_below_drewN | apply below_drew1) | exact HB.out)) hb); clear HO104; clear HB; have HO104 := n0_; have HO108 := n1_; have HB := n2_; clear n0_ n1_ n2_; (try clear hb); (try clear hb2); (try clear hk); (try clear hi); (try clear ho0)) | ((with_reducible refine gate_callee (f := 25) rfl ?_); refine goesL_ (some 32) rfl rfl Try.func25 (by kernel_rfl) rfl #[.slice A0 l0.length c0] rfl (by (try simp only [List.map_toArray, List.map_cons, List.map_nil]); first | done | rfl | (simp only [List.length_drop, List.length_take]; rfl)) ?_; (with_reducible refine (laws_toBlockS.calls k _ _ l0 t109 _ ?side1 ?side2 A9.out).mono ?_); (case side1 => repeat (first | exact (Kd.C_below HR0.out HB.out) | (with_reducible refine Kd.C_alloc ?_ _) | (with_reducible refine Kd.C_drewN ?_ _) | (with_reducible refine Kd.C_drew ?_))); (case side2 => exact HC0.out); rintro e w16 ⟨v110, rfl, ho0, hb⟩; refine ⟨_, rfl, ?_⟩; have n0_ := Aside0.mk (Kd.R_elder' (by (with_reducible repeat (first | apply Kd.R_alloc | apply Kd.R_drewN | apply Kd.R_drew)); exact HO104.out) (Kd.R_base ho0) hb); have n1_ := Aside0.mk (Kd.R_below (by (with_reducible repeat (first | apply Kd.R_alloc | apply Kd.R_drewN | apply Kd.R_drew)); exact HO108.out) hb); have n2_ := Aside0.mk (Kd.R_lower (Kd.R_new' ho0 (Kd.R_lt (by (with_reducible repeat (first | apply Kd.R_alloc | apply Kd.R_drewN | apply Kd.R_drew)); exact HO104.out))) (below_size (by repeat (first | (with_reducible first | exact HB.out | apply below_alloc | apply pw_below_drewN | apply below_drew1) | exact HB.out)))); have n3_ := Aside0.mk (below_step (by repeat (first | (with_reducible first | exact HB.out | apply below_alloc | apply pw_below_drewN | apply below_drew1) | exact HB.out)) hb); clear HO104; clear HO108; clear HB; have HO104 := n0_; have HO108 := n1_; have HO111 := n2_; have HB := n3_; clear n0_ n1_ n2_ n3_; (try clear hb); (try clear hb2); (try clear hk); (try clear hi); (try clear ho0); obtain ⟨Ao17, co17, eo17⟩ := Kd.R_slice HO111.out; subst eo17) | ((with_reducible refine gate_callee (f := 35) rfl ?_); refine goesL_ (some 36) rfl rfl Try.func35 (by kernel_rfl) rfl #[.slice Ao17 t109.length co17, .string a1] rfl (by (try simp only [List.map_toArray, List.map_cons, List.map_nil]); first | done | rfl | (simp only [List.length_drop, List.length_take]; rfl)) ?_; (with_reducible refine (impl_BlocksOfKind.calls k _ _ t109 a1 t112 t113 _ ?side1 ?side2 A10.out ?side3).mono ?_); (case side1 => repeat (first | exact (Kd.R_reads' HO111.out).2.2 | (with_reducible refine Kd.C_alloc ?_ _) | (with_reducible refine Kd.C_drewN ?_ _) | (with_reducible refine Kd.C_drew ?_))); (case side2 => exact (Kd.R_reads' HO111.out).2.1); (case side3 => exact HasV.below HV.out (by repeat (first | (with_reducible first | exact HB.out | apply below_alloc | apply pw_below_drewN | apply below_drew1) | exact HB.out))); rintro e w18 ⟨v114, rfl, ho0, hb⟩; refine ⟨_, rfl, ?_⟩; have n0_ := Aside0.mk (Kd.R_below (by (with_reducible repeat (first | apply Kd.R_alloc | apply Kd.R_drewN | apply Kd.R_drew)); exact HO104.out) hb); have n1_ := Aside0.mk (Kd.R_elder' (by (with_reducible repeat (first | apply Kd.R_alloc | apply Kd.R_drewN | apply Kd.R_drew)); exact HO108.out) (Kd.R_base ho0) hb); have n2_ := Aside0.mk (Kd.R_below (by (with_reducible repeat (first | apply Kd.R_alloc | apply Kd.R_drewN | apply Kd.R_drew)); exact HO111.out) hb); have n3_ := Aside0.mk (Kd.R_lower (Kd.R_new' ho0 (Kd.R_lt (by (with_reducible repeat (first | apply Kd.R_alloc | apply Kd.R_drewN | apply Kd.R_drew)); exact HO108.out))) (below_size (by repeat (first | (with_reducible first | exact HB.out | apply below_alloc | apply pw_below_drewN | apply below_drew1) | exact HB.out)))); have n4_ := Aside0.mk (below_step (by repeat (first | (with_reducible first | exact HB.out | apply below_alloc | apply pw_below_drewN | apply below_drew1) | exact HB.out)) hb); clear HO104; clear HO108; clear HO111; clear HB; have HO104 := n0_; have HO108 := n1_; have HO111 := n2_; have HO115 := n3_; have HB := n4_; clear n0_ n1_ n2_ n3_ n4_; (try clear hb); (try clear hb2); (try clear hk); (try clear hi); (try clear ho0)))
      (try simp only [Act.put, List.setIfInBounds_toArray, List.set_cons_zero, List.set_cons_succ])
      go_cut [47] (fun v47 wc => ∃ (kq : Nat) (x47_10 : Bool), v47 = .bool x47_10 ∧ Aside0 (laws_FnExactBlocksOfKind.j0 kq l0 a1 t105 t106 t109 t112 t113 x47_10 = some r) ∧ Aside0 (kq ≤ k) ∧ Aside0 (Kd.R Kd.string 9 wc w.heap.size (fun k_ => some k_ ≠ (v114 : Value).ownBlock) v107 t105) ∧ Aside0 (Kd.R k69 69 wc w.heap.size (fun _ => True) (.slice Ao17 t109.length co17) t109) ∧ Aside0 (Kd.R Kd.string 9 wc w.heap.size (fun k_ => some k_ ≠ (v107 : Value).ownBlock) v114 t112) ∧ Aside0 (Below w.heap.size w wc))
      case first =>
        have H := HC11.out
        clear HC11
        replace H := Option.bind_eq_some_iff.mp H
        obtain ⟨t116, A190, H⟩ := H
        replace H : (if t116 = true then (laws_FnExactBlocksOfKind.j0 k l0 a1 t105 t106 t109 t112 t113 (t113 != t106)) else (laws_FnExactBlocksOfKind.j0 k l0 a1 t105 t106 t109 t112 t113 true)) = some r := H
        have A19 := Aside0.mk A190
        clear A190
        by_cases c20 : t116 = true
        · subst c20
          have H1 : (laws_FnExactBlocksOfKind.j0 k l0 a1 t105 t106 t109 t112 t113 (t113 != t106)) = some r := by rw [if_pos rfl] at H; exact H
          clear H
          have H := H1
          clear H1
          have H' := Aside0.mk H
          clear H
          obtain ⟨Ao21, co21, eo21⟩ := Kd.R_slice HO115.out
          subst eo21
          obtain ⟨Ao22, co22, eo22⟩ := Kd.R_slice HO108.out
          subst eo22
          go_wp2_with (first | ((with_reducible refine gate_callee (f := 19) rfl ?_); refine goesL_ (some 41) rfl rfl Try.func19 (by kernel_rfl) rfl #[.slice Ao21 t112.length co21, .slice Ao22 t105.length co22] rfl (by (try simp only [List.map_toArray, List.map_cons, List.map_nil]); first | done | rfl | (simp only [List.length_drop, List.length_take]; rfl)) ?_; (with_reducible refine (laws_eqStringS.calls k _ _ t112 _ _ t105 true _ ?side1 ?side2 ?side3 ?side4 A19.out).mono ?_); (case side1 => repeat (first | exact (Kd.R_reads' HO115.out).2.2 | (with_reducible refine Kd.C_alloc ?_ _) | (with_reducible refine Kd.C_drewN ?_ _) | (with_reducible refine Kd.C_drew ?_))); (case side2 => exact (Kd.R_reads' HO115.out).2.1); (case side3 => repeat (first | exact (Kd.R_reads' HO108.out).2.2 | (with_reducible refine Kd.C_alloc ?_ _) | (with_reducible refine Kd.C_drewN ?_ _) | (with_reducible refine Kd.C_drew ?_))); (case side4 => exact (Kd.R_reads' HO108.out).2.1); rintro e w' ⟨rfl, ⟨nd, rfl⟩⟩; refine ⟨_, rfl, ?_⟩))
          go_meet
          case rel => exact ⟨_, ((t113 != t106)), (by first | rfl | (simp; done) | (simp [*]; done)), H', ⟨by first | omega | exact Nat.le_refl _⟩, ⟨by (with_reducible repeat (first | apply Kd.R_alloc | apply Kd.R_drewN | apply Kd.R_drew)); exact Kd.R_mono HO108.out (fun _ hk => hk.2)⟩, ⟨by (with_reducible repeat (first | apply Kd.R_alloc | apply Kd.R_drewN | apply Kd.R_drew)); exact Kd.R_mono HO111.out (fun _ hk => trivial)⟩, ⟨by (with_reducible repeat (first | apply Kd.R_alloc | apply Kd.R_drewN | apply Kd.R_drew)); exact Kd.R_mono HO115.out (fun _ hk => hk.2)⟩, ⟨by repeat (first | (with_reducible first | exact HB.out | apply below_alloc | apply pw_below_drewN | apply below_drew1) | exact HB.out)⟩⟩
        · replace c20 := Bool.eq_false_iff.mpr c20
          subst c20
          have H1 : (laws_FnExactBlocksOfKind.j0 k l0 a1 t105 t106 t109 t112 t113 true) = some r := by rw [if_neg (show ¬ (false = true) by decide)] at H; exact H
          clear H
          have H := H1
          clear H1
          have H' := Aside0.mk H
          clear H
          obtain ⟨Ao23, co23, eo23⟩ := Kd.R_slice HO115.out
          subst eo23
          obtain ⟨Ao24, co24, eo24⟩ := Kd.R_slice HO108.out
          subst eo24
          go_wp2_with (first | ((with_reducible refine gate_callee (f := 19) rfl ?_); refine goesL_ (some 41) rfl rfl Try.func19 (by kernel_rfl) rfl #[.slice Ao23 t112.length co23, .slice Ao24 t105.length co24] rfl (by (try simp only [List.map_toArray, List.map_cons, List.map_nil]); first | done | rfl | (simp only [List.length_drop, List.length_take]; rfl)) ?_; (with_reducible refine (laws_eqStringS.calls k _ _ t112 _ _ t105 false _ ?side1 ?side2 ?side3 ?side4 A19.out).mono ?_); (case side1 => repeat (first | exact (Kd.R_reads' HO115.out).2.2 | (with_reducible refine Kd.C_alloc ?_ _) | (with_reducible refine Kd.C_drewN ?_ _) | (with_reducible refine Kd.C_drew ?_))); (case side2 => exact (Kd.R_reads' HO115.out).2.1); (case side3 => repeat (first | exact (Kd.R_reads' HO108.out).2.2 | (with_reducible refine Kd.C_alloc ?_ _) | (with_reducible refine Kd.C_drewN ?_ _) | (with_reducible refine Kd.C_drew ?_))); (case side4 => exact (Kd.R_reads' HO108.out).2.1); rintro e w' ⟨rfl, ⟨nd, rfl⟩⟩; refine ⟨_, rfl, ?_⟩))
          go_meet
          case rel => exact ⟨_, (true), (by first | rfl | (simp; done) | (simp [*]; done)), H', ⟨by first | omega | exact Nat.le_refl _⟩, ⟨by (with_reducible repeat (first | apply Kd.R_alloc | apply Kd.R_drewN | apply Kd.R_drew)); exact Kd.R_mono HO108.out (fun _ hk => hk.2)⟩, ⟨by (with_reducible repeat (first | apply Kd.R_alloc | apply Kd.R_drewN | apply Kd.R_drew)); exact Kd.R_mono HO111.out (fun _ hk => trivial)⟩, ⟨by (with_reducible repeat (first | apply Kd.R_alloc | apply Kd.R_drewN | apply Kd.R_drew)); exact Kd.R_mono HO115.out (fun _ hk => hk.2)⟩, ⟨by repeat (first | (with_reducible first | exact HB.out | apply below_alloc | apply pw_below_drewN | apply below_drew1) | exact HB.out)⟩⟩
      case rest =>
        clear HC11
        try clear c1
        try clear c2
        try clear p2
        try clear c3
        try clear c3b0
        try clear c3b1
        try clear c5
        try clear c5b0
        try clear c7
        try clear c19
        try clear c20
        try clear c23
        obtain ⟨kq, x47_10, rfl, HA, HJ10, HO_6, HO_8, HO_9, HB⟩ := hcut
        cases kq with
        | zero => exact absurd HA.out (by simp [laws_FnExactBlocksOfKind.j0])
        | succ kj10 =>
          have H := HA.out
          clear HA
          simp only [laws_FnExactBlocksOfKind.j0] at H
          by_cases c25 : x47_10 = true
          · subst c25
            have H1 : (some false) = some r := by rw [if_pos rfl] at H; exact H
            clear H
            have H := H1
            clear H1
            obtain rfl := Option.some.inj H
            go_wp2
            go_ret
            exact ⟨by first | rfl | (simp [errW_none, errW_some] <;> rfl) | (simp [*, errW_none, errW_some] <;> rfl), by repeat (first | (with_reducible first | exact HB.out | apply below_alloc | apply pw_below_drewN | apply below_drew1) | exact HB.out)⟩
          · replace c25 := Bool.eq_false_iff.mpr c25
            subst c25
            have H1 : ((laws_toBlockS.f kj10 l0).bind fun t117 => ((laws_eqBlockS.f kj10 t109 t117).bind fun t120 => (if t120 = true then ((laws_markBlockS.f kj10 t109 1).bind fun bt121 => (if bt121.1 < 0 then (laws_FnExactBlocksOfKind.j1 kj10 l0 a1 t105 t106 t112 true) else ((laws_eqStringS.f kj10 t112 t105).bind fun t123 => (if t123 = true then (laws_FnExactBlocksOfKind.j1 kj10 l0 a1 t105 t106 t112 (t113 != t106)) else (laws_FnExactBlocksOfKind.j1 kj10 l0 a1 t105 t106 t112 true))))) else (some false)))) = some r := by rw [if_neg (show ¬ (false = true) by decide)] at H; exact H
            clear H
            have H := H1
            clear H1
            replace H := Option.bind_eq_some_iff.mp H
            obtain ⟨t117, A260, H⟩ := H
            replace H : ((laws_eqBlockS.f kj10 t109 t117).bind fun t120 => (if t120 = true then ((laws_markBlockS.f kj10 t109 1).bind fun bt121 => (if bt121.1 < 0 then (laws_FnExactBlocksOfKind.j1 kj10 l0 a1 t105 t106 t112 true) else ((laws_eqStringS.f kj10 t112 t105).bind fun t123 => (if t123 = true then (laws_FnExactBlocksOfKind.j1 kj10 l0 a1 t105 t106 t112 (t113 != t106)) else (laws_FnExactBlocksOfKind.j1 kj10 l0 a1 t105 t106 t112 true))))) else (some false))) = some r := H
            have A26 := Aside0.mk A260
            clear A260
            replace H := Option.bind_eq_some_iff.mp H
            obtain ⟨t120, A270, H⟩ := H
            replace H : (if t120 = true then ((laws_markBlockS.f kj10 t109 1).bind fun bt121 => (if bt121.1 < 0 then (laws_FnExactBlocksOfKind.j1 kj10 l0 a1 t105 t106 t112 true) else ((laws_eqStringS.f kj10 t112 t105).bind fun t123 => (if t123 = true then (laws_FnExactBlocksOfKind.j1 kj10 l0 a1 t105 t106 t112 (t113 != t106)) else (laws_FnExactBlocksOfKind.j1 kj10 l0 a1 t105 t106 t112 true))))) else (some false)) = some r := H
            have A27 := Aside0.mk A270
            clear A270
            by_cases c28 : t120 = true
            · subst c28
              have H1 : ((laws_markBlockS.f kj10 t109 1).bind fun bt121 => (if bt121.1 < 0 then (laws_FnExactBlocksOfKind.j1 kj10 l0 a1 t105 t106 t112 true) else ((laws_eqStringS.f kj10 t112 t105).bind fun t123 => (if t123 = true then (laws_FnExactBlocksOfKind.j1 kj10 l0 a1 t105 t106 t112 (t113 != t106)) else (laws_FnExactBlocksOfKind.j1 kj10 l0 a1 t105 t106 t112 true))))) = some r := by rw [if_pos rfl] at H; exact H
              clear H
              have H := H1
              clear H1
              replace H := Option.bind_eq_some_iff.mp H
              obtain ⟨⟨t121, t122⟩, A290, H⟩ := H
              replace H : (if t121 < 0 then (laws_FnExactBlocksOfKind.j1 kj10 l0 a1 t105 t106 t112 true) else ((laws_eqStringS.f kj10 t112 t105).bind fun t123 => (if t123 = true then (laws_FnExactBlocksOfKind.j1 kj10 l0 a1 t105 t106 t112 (t113 != t106)) else (laws_FnExactBlocksOfKind.j1 kj10 l0 a1 t105 t106 t112 true)))) = some r := H
              have A29 := Aside0.mk A290
              clear A290
              have HC30 := Aside0.mk H
              clear H
              go_upto_region 16 with (first | ((with_reducible refine gate_callee (f := 25) rfl ?_); refine goesL_ (some 50) rfl rfl Try.func25 (by kernel_rfl) rfl #[.slice A0 l0.length c0] rfl (by (try simp only [List.map_toArray, List.map_cons, List.map_nil]); first | done | rfl | (simp only [List.length_drop, List.length_take]; rfl)) ?_; (with_reducible refine (laws_toBlockS.calls kj10 _ _ l0 t117 _ ?side1 ?side2 A26.out).mono ?_); (case side1 => repeat (first | exact (Kd.C_below HR0.out HB.out) | (with_reducible refine Kd.C_alloc ?_ _) | (with_reducible refine Kd.C_drewN ?_ _) | (with_reducible refine Kd.C_drew ?_))); (case side2 => exact HC0.out); rintro e w31 ⟨v118, rfl, ho0, hb⟩; refine ⟨_, rfl, ?_⟩; have n0_ := Aside0.mk (Kd.R_below (by (with_reducible repeat (first | apply Kd.R_alloc | apply Kd.R_drewN | apply Kd.R_drew)); exact HO_6.out) hb); have n1_ := Aside0.mk (Kd.R_elder' (by (with_reducible repeat (first | apply Kd.R_alloc | apply Kd.R_drewN | apply Kd.R_drew)); exact HO_8.out) (Kd.R_base ho0) hb); have n2_ := Aside0.mk (Kd.R_below (by (with_reducible repeat (first | apply Kd.R_alloc | apply Kd.R_drewN | apply Kd.R_drew)); exact HO_9.out) hb); have n3_ := Aside0.mk (Kd.R_lower (Kd.R_new' ho0 (Kd.R_lt (by (with_reducible repeat (first | apply Kd.R_alloc | apply Kd.R_drewN | apply Kd.R_drew)); exact HO_8.out))) (below_size (by repeat (first | (with_reducible first | exact HB.out | apply below_alloc | apply pw_below_drewN | apply below_drew1) | exact HB.out)))); have n4_ := Aside0.mk (below_step (by repeat (first | (with_reducible first | exact HB.out | apply below_alloc | apply pw_below_drewN | apply below_drew1) | exact HB.out)) hb); clear HO_6; clear HO_8; clear HO_9; clear HB; have HO_6 := n0_; have HO_8 := n1_; have HO_9 := n2_; have HO119 := n3_; have HB := n4_; clear n0_ n1_ n2_ n3_ n4_; (try clear hb); (try clear hb2); (try clear hk); (try clear hi); (try clear ho0); obtain ⟨Ao32, co32, eo32⟩ := Kd.R_slice HO119.out; subst eo32) | ((with_reducible refine gate_callee (f := 27) rfl ?_); refine goesL_ (some 51) rfl rfl Try.func27 (by kernel_rfl) rfl #[.slice Ao17 t109.length co17, .slice Ao32 t117.length co32] rfl (by (try simp only [List.map_toArray, List.map_cons, List.map_nil]); first | done | rfl | (simp only [List.length_drop, List.length_take]; rfl)) ?_; (with_reducible refine (laws_eqBlockS.calls kj10 _ _ t109 _ _ t117 true _ ?side1 ?side2 ?side3 ?side4 A27.out).mono ?_); (case side1 => repeat (first | exact (Kd.R_reads' HO_8.out).2.2 | (with_reducible refine Kd.C_alloc ?_ _) | (with_reducible refine Kd.C_drewN ?_ _) | (with_reducible refine Kd.C_drew ?_))); (case side2 => exact (Kd.R_reads' HO_8.out).2.1); (case side3 => repeat (first | exact (Kd.R_reads' HO119.out).2.2 | (with_reducible refine Kd.C_alloc ?_ _) | (with_reducible refine Kd.C_drewN ?_ _) | (with_reducible refine Kd.C_drew ?_))); (case side4 => exact (Kd.R_reads' HO119.out).2.1); rintro e w33 ⟨rfl, hb⟩; refine ⟨_, rfl, ?_⟩; have n0_ := Aside0.mk (Kd.R_below (by (with_reducible repeat (first | apply Kd.R_alloc | apply Kd.R_drewN | apply Kd.R_drew)); exact HO_6.out) hb); have n1_ := Aside0.mk (Kd.R_below (by (with_reducible repeat (first | apply Kd.R_alloc | apply Kd.R_drewN | apply Kd.R_drew)); exact HO_8.out) hb); have n2_ := Aside0.mk (Kd.R_below (by (with_reducible repeat (first | apply Kd.R_alloc | apply Kd.R_drewN | apply Kd.R_drew)); exact HO_9.out) hb); have n3_ := Aside0.mk (Kd.R_below (by (with_reducible repeat (first | apply Kd.R_alloc | apply Kd.R_drewN | apply Kd.R_drew)); exact HO119.out) hb); have n4_ := Aside0.mk (below_step (by repeat (first | (with_reducible first | exact HB.out | apply below_alloc | apply pw_below_drewN | apply below_drew1) | exact HB.out)) hb); clear HO_6; clear HO_8; clear HO_9; clear HO119; clear HB; have HO_6 := n0_; have HO_8 := n1_; have HO_9 := n2_; have HO119 := n3_; have HB := n4_; clear n0_ n1_ n2_ n3_ n4_; (try clear hb); (try clear hb2); (try clear hk); (try clear hi)) | ((with_reducible refine gate_callee (f := 36) rfl ?_); refine goesL_ (some 55) rfl rfl Try.func36 (by kernel_rfl) rfl #[.slice Ao17 t109.length co17, .int .i64 1] rfl (by (try simp only [List.map_toArray, List.map_cons, List.map_nil]); first | done | rfl | (simp only [List.length_drop, List.length_take]; rfl)) ?_; (with_reducible refine (laws_markBlockS.calls kj10 (fun k_ => some k_ = (.slice Ao17 t109.length co17 : Value).ownBlock) (.slice Ao17 t109.length co17) t109 1 t121 t122 w _ ?side1 ?side2 A29.out).mono ?_); (case side1 => repeat (first | (with_reducible first | exact HB.out | apply below_alloc | apply pw_below_drewN | apply below_drew1) | exact HB.out)); (case side2 => exact Kd.R_tight rfl HO_8.out); rintro e w34 ⟨rfl, hy0, hb, hkp⟩; refine ⟨_, rfl, ?_⟩; have n0_ := Aside0.mk (Kd.R_mono (ok' := fun k_ => some k_ ≠ (v114 : Value).ownBlock) (Kd.R_keptB ((Kd.R_apart' HO_6.out (Kd.R_typed HO_8.out) (by decide))) hkp (fun k_ hk_ hs_ => (hk_.2) hs_)) (fun k_ hk_ => hk_.1.1)); have n1_ := Aside0.mk (Kd.R_reok rfl hy0 (fun k_ e_ => HO_8.out.1 k_ e_)); have n2_ := Aside0.mk (Kd.R_mono (ok' := fun k_ => some k_ ≠ (v107 : Value).ownBlock) (Kd.R_keptB ((Kd.R_apart' HO_9.out (Kd.R_typed HO_8.out) (by decide))) hkp (fun k_ hk_ hs_ => (hk_.2) hs_)) (fun k_ hk_ => hk_.1.1)); have n3_ := Aside0.mk (Kd.R_mono (ok' := fun k_ => some k_ ≠ (.slice Ao17 t109.length co17 : Value).ownBlock) (Kd.R_keptB (HO119.out) hkp (fun k_ hk_ hs_ => (hk_.2) hs_)) (fun k_ hk_ => hk_.1.2)); have n4_ := Aside0.mk (hb); clear HO_6; clear HO_8; clear HO_9; clear HO119; clear HB; have HO_6 := n0_; have HO_8 := n1_; have HO_9 := n2_; have HO119 := n3_; have HB := n4_; clear n0_ n1_ n2_ n3_ n4_; (try clear hb); (try clear hkp); (try clear hy0)))
              (try simp only [Act.put, List.setIfInBounds_toArray, List.set_cons_zero, List.set_cons_succ])
              go_cut [68] (fun v68 wc => ∃ (kq : Nat) (x68_29 : Bool), v68 = .bool x68_29 ∧ Aside0 (laws_FnExactBlocksOfKind.j1 kq l0 a1 t105 t106 t112 x68_29 = some r) ∧ Aside0 (kq ≤ kj10) ∧ Aside0 (Kd.R Kd.string 9 wc w.heap.size (fun k_ => some k_ ≠ (v114 : Value).ownBlock) v107 t105) ∧ Aside0 (Kd.R Kd.string 9 wc w.heap.size (fun k_ => some k_ ≠ (v107 : Value).ownBlock) v114 t112) ∧ Aside0 (Below w.heap.size w wc))
              case first =>
                have H := HC30.out
                clear HC30
                by_cases c35 : t121 < 0
                · rw [if_pos c35] at H
                  have c35b0 : decide (t121 < 0) = true := decide_eq_true c35
                  clear c35
                  (first | rw [c35b0] | (simp only [i64_w, i32_w]; rw [c35b0]) | skip)
                  have H' := Aside0.mk H
                  clear H
                  go_wp2
                  go_meet
                  case rel => exact ⟨_, (true), (by first | rfl | (simp; done) | (simp [*]; done)), H', ⟨by have := HJ10.out; first | omega | exact Nat.le_refl _⟩, ⟨by (with_reducible repeat (first | apply Kd.R_alloc | apply Kd.R_drewN | apply Kd.R_drew)); exact HO_6.out⟩, ⟨by (with_reducible repeat (first | apply Kd.R_alloc | apply Kd.R_drewN | apply Kd.R_drew)); exact HO_9.out⟩, ⟨by repeat (first | (with_reducible first | exact HB.out | apply below_alloc | apply pw_below_drewN | apply below_drew1) | exact HB.out)⟩⟩
                · rw [if_neg c35] at H
                  have c35b0 : decide (t121 < 0) = false := decide_eq_false c35
                  clear c35
                  (first | rw [c35b0] | (simp only [i64_w, i32_w]; rw [c35b0]) | skip)
                  replace H := Option.bind_eq_some_iff.mp H
                  obtain ⟨t123, A360, H⟩ := H
                  replace H : (if t123 = true then (laws_FnExactBlocksOfKind.j1 kj10 l0 a1 t105 t106 t112 (t113 != t106)) else (laws_FnExactBlocksOfKind.j1 kj10 l0 a1 t105 t106 t112 true)) = some r := H
                  have A36 := Aside0.mk A360
                  clear A360
                  by_cases c37 : t123 = true
                  · subst c37
                    have H1 : (laws_FnExactBlocksOfKind.j1 kj10 l0 a1 t105 t106 t112 (t113 != t106)) = some r := by rw [if_pos rfl] at H; exact H
                    clear H
                    have H := H1
                    clear H1
                    have H' := Aside0.mk H
                    clear H
                    obtain ⟨Ao38, co38, eo38⟩ := Kd.R_slice HO_9.out
                    subst eo38
                    obtain ⟨Ao39, co39, eo39⟩ := Kd.R_slice HO_6.out
                    subst eo39
                    go_wp2_with (first | (go_at_call 19; (with_reducible refine (laws_eqStringS.calls kj10 _ _ t112 _ _ t105 true _ ?side1 ?side2 ?side3 ?side4 A36.out).mono ?_); (case side1 => repeat (first | exact (Kd.R_reads' HO_9.out).2.2 | (with_reducible refine Kd.C_alloc ?_ _) | (with_reducible refine Kd.C_drewN ?_ _) | (with_reducible refine Kd.C_drew ?_))); (case side2 => exact (Kd.R_reads' HO_9.out).2.1); (case side3 => repeat (first | exact (Kd.R_reads' HO_6.out).2.2 | (with_reducible refine Kd.C_alloc ?_ _) | (with_reducible refine Kd.C_drewN ?_ _) | (with_reducible refine Kd.C_drew ?_))); (case side4 => exact (Kd.R_reads' HO_6.out).2.1); rintro e w' ⟨rfl, ⟨nd, rfl⟩⟩))
                    go_meet
                    case rel => exact ⟨_, ((t113 != t106)), (by first | rfl | (simp; done) | (simp [*]; done)), H', ⟨by have := HJ10.out; first | omega | exact Nat.le_refl _⟩, ⟨by (with_reducible repeat (first | apply Kd.R_alloc | apply Kd.R_drewN | apply Kd.R_drew)); exact HO_6.out⟩, ⟨by (with_reducible repeat (first | apply Kd.R_alloc | apply Kd.R_drewN | apply Kd.R_drew)); exact HO_9.out⟩, ⟨by repeat (first | (with_reducible first | exact HB.out | apply below_alloc | apply pw_below_drewN | apply below_drew1) | exact HB.out)⟩⟩
                  · replace c37 := Bool.eq_false_iff.mpr c37
                    subst c37
                    have H1 : (laws_FnExactBlocksOfKind.j1 kj10 l0 a1 t105 t106 t112 true) = some r := by rw [if_neg (show ¬ (false = true) by decide)] at H; exact H
                    clear H
                    have H := H1
                    clear H1
                    have H' := Aside0.mk H
                    clear H
                    obtain ⟨Ao40, co40, eo40⟩ := Kd.R_slice HO_9.out
                    subst eo40
                    obtain ⟨Ao41, co41, eo41⟩ := Kd.R_slice HO_6.out
                    subst eo41
                    go_wp2_with (first | (go_at_call 19; (with_reducible refine (laws_eqStringS.calls kj10 _ _ t112 _ _ t105 false _ ?side1 ?side2 ?side3 ?side4 A36.out).mono ?_); (case side1 => repeat (first | exact (Kd.R_reads' HO_9.out).2.2 | (with_reducible refine Kd.C_alloc ?_ _) | (with_reducible refine Kd.C_drewN ?_ _) | (with_reducible refine Kd.C_drew ?_))); (case side2 => exact (Kd.R_reads' HO_9.out).2.1); (case side3 => repeat (first | exact (Kd.R_reads' HO_6.out).2.2 | (with_reducible refine Kd.C_alloc ?_ _) | (with_reducible refine Kd.C_drewN ?_ _) | (with_reducible refine Kd.C_drew ?_))); (case side4 => exact (Kd.R_reads' HO_6.out).2.1); rintro e w' ⟨rfl, ⟨nd, rfl⟩⟩))
                    go_meet
                    case rel => exact ⟨_, (true), (by first | rfl | (simp; done) | (simp [*]; done)), H', ⟨by have := HJ10.out; first | omega | exact Nat.le_refl _⟩, ⟨by (with_reducible repeat (first | apply Kd.R_alloc | apply Kd.R_drewN | apply Kd.R_drew)); exact HO_6.out⟩, ⟨by (with_reducible repeat (first | apply Kd.R_alloc | apply Kd.R_drewN | apply Kd.R_drew)); exact HO_9.out⟩, ⟨by repeat (first | (with_reducible first | exact HB.out | apply below_alloc | apply pw_below_drewN | apply below_drew1) | exact HB.out)⟩⟩
              case rest =>
                clear HC30
                try clear c1
                try clear c2
                try clear p2
                try clear c3
                try clear c3b0
                try clear c3b1
                try clear c5
                try clear c5b0
                try clear c7
                try clear c19
                try clear c20
                try clear c23
                try clear c25
                try clear c27
                try clear c28
                try clear c34
                try clear c35
                try clear c35b0
                try clear c36
                try clear c37
                try clear p2
                obtain ⟨kq, x68_29, rfl, HA, HJ29, HO_6, HO_9, HB⟩ := hcut
                cases kq with
                | zero => exact absurd HA.out (by simp [laws_FnExactBlocksOfKind.j1])
                | succ kj29 =>
                  have H := HA.out
                  clear HA
                  simp only [laws_FnExactBlocksOfKind.j1] at H
                  by_cases c42 : x68_29 = true
                  · subst c42
                    have H1 : (some false) = some r := by rw [if_pos rfl] at H; exact H
                    clear H
                    have H := H1
                    clear H1
                    obtain rfl := Option.some.inj H
                    go_wp2
                    go_ret
                    exact ⟨by first | rfl | (simp [errW_none, errW_some] <;> rfl) | (simp [*, errW_none, errW_some] <;> rfl), by repeat (first | (with_reducible first | exact HB.out | apply below_alloc | apply pw_below_drewN | apply below_drew1) | exact HB.out)⟩
                  · replace c42 := Bool.eq_false_iff.mpr c42
                    subst c42
                    have H1 : ((laws_markStringS.f kj29 t112 1).bind fun bt124 => ((laws_heldStringS.f kj29 bt124.2 1).bind fun t126 => (if t126 < 0 then (some false) else (if t126 = bt124.1 then ((laws_toBlockS.f kj29 l0).bind fun t127 => ((impl_BlocksOfKind.f kj29 t127 a1).bind fun bt130 => ((laws_eqStringS.f kj29 bt130.1 t105).bind fun t134 => (if t134 = true then (laws_FnExactBlocksOfKind.j2 kj29 bt124.2 bt124.1 (bt130.2 != t106)) else (laws_FnExactBlocksOfKind.j2 kj29 bt124.2 bt124.1 true))))) else (some false))))) = some r := by rw [if_neg (show ¬ (false = true) by decide)] at H; exact H
                    clear H
                    have H := H1
                    clear H1
                    replace H := Option.bind_eq_some_iff.mp H
                    obtain ⟨⟨t124, t125⟩, A430, H⟩ := H
                    replace H : ((laws_heldStringS.f kj29 t125 1).bind fun t126 => (if t126 < 0 then (some false) else (if t126 = t124 then ((laws_toBlockS.f kj29 l0).bind fun t127 => ((impl_BlocksOfKind.f kj29 t127 a1).bind fun bt130 => ((laws_eqStringS.f kj29 bt130.1 t105).bind fun t134 => (if t134 = true then (laws_FnExactBlocksOfKind.j2 kj29 t125 t124 (bt130.2 != t106)) else (laws_FnExactBlocksOfKind.j2 kj29 t125 t124 true))))) else (some false)))) = some r := H
                    have A43 := Aside0.mk A430
                    clear A430
                    replace H := Option.bind_eq_some_iff.mp H
                    obtain ⟨t126, A440, H⟩ := H
                    replace H : (if t126 < 0 then (some false) else (if t126 = t124 then ((laws_toBlockS.f kj29 l0).bind fun t127 => ((impl_BlocksOfKind.f kj29 t127 a1).bind fun bt130 => ((laws_eqStringS.f kj29 bt130.1 t105).bind fun t134 => (if t134 = true then (laws_FnExactBlocksOfKind.j2 kj29 t125 t124 (bt130.2 != t106)) else (laws_FnExactBlocksOfKind.j2 kj29 t125 t124 true))))) else (some false))) = some r := H
                    have A44 := Aside0.mk A440
                    clear A440
                    by_cases c45 : t126 < 0
                    · rw [if_pos c45] at H
                      have c45b0 : decide (t126 < 0) = true := decide_eq_true c45
                      clear c45
                      obtain rfl := Option.some.inj H
                      obtain ⟨Ao46, co46, eo46⟩ := Kd.R_slice HO_9.out
                      subst eo46
                      go_wp2_with (first | ((with_reducible refine gate_callee (f := 20) rfl ?_); refine goesL_ (some 71) rfl rfl Try.func20 (by kernel_rfl) rfl #[.slice Ao46 t112.length co46, .int .i64 1] rfl (by (try simp only [List.map_toArray, List.map_cons, List.map_nil]); first | done | rfl | (simp only [List.length_drop, List.length_take]; rfl)) ?_; (with_reducible refine (laws_markStringS.calls kj29 (fun k_ => some k_ = (.slice Ao46 t112.length co46 : Value).ownBlock) (.slice Ao46 t112.length co46) t112 1 t124 t125 w _ ?side1 ?side2 A43.out).mono ?_); (case side1 => repeat (first | (with_reducible first | exact HB.out | apply below_alloc | apply pw_below_drewN | apply below_drew1) | exact HB.out)); (case side2 => exact Kd.R_tight rfl HO_9.out); rintro e w47 ⟨rfl, hy0, hb, hkp⟩; refine ⟨_, rfl, ?_⟩; have n0_ := Aside0.mk (Kd.R_mono (ok' := fun k_ => some k_ ≠ (.slice Ao46 t112.length co46 : Value).ownBlock) (Kd.R_keptB (HO_6.out) hkp (fun k_ hk_ hs_ => (hk_) hs_)) (fun k_ hk_ => hk_.1)); have n1_ := Aside0.mk (Kd.R_reok rfl hy0 (fun k_ e_ => HO_9.out.1 k_ e_)); have n2_ := Aside0.mk (hb); clear HO_6; clear HO_9; clear HB; have HO_6 := n0_; have HO_9 := n1_; have HB := n2_; clear n0_ n1_ n2_; (try clear hb); (try clear hkp); (try clear hy0)) | ((with_reducible refine gate_callee (f := 33) rfl ?_); refine goesL_ (some 74) rfl rfl Try.func33 (by kernel_rfl) rfl #[.slice Ao46 t125.length co46, .int .i64 1] rfl (by (try simp only [List.map_toArray, List.map_cons, List.map_nil]); first | done | (rw [show t125.length = t112.length from (Kd.R_reads' HO_9.out).1.symm] <;> rfl) | rfl | (simp only [List.length_drop, List.length_take]; rfl)) ?_; (with_reducible refine (laws_heldStringS.calls kj29 _ _ t125 1 t126 _ ?side1 ?side2 A44.out).mono ?_); (case side1 => repeat (first | exact (Kd.R_reads' HO_9.out).2.2 | (with_reducible refine Kd.C_alloc ?_ _) | (with_reducible refine Kd.C_drewN ?_ _) | (with_reducible refine Kd.C_drew ?_))); (case side2 => rw [show t125.length = t112.length from (Kd.R_reads' HO_9.out).1.symm]; exact (Kd.R_reads' HO_9.out).2.1); rintro e w48 ⟨rfl, hb⟩; refine ⟨_, rfl, ?_⟩; have n0_ := Aside0.mk (Kd.R_below (by (with_reducible repeat (first | apply Kd.R_alloc | apply Kd.R_drewN | apply Kd.R_drew)); exact HO_6.out) hb); have n1_ := Aside0.mk (Kd.R_below (by (with_reducible repeat (first | apply Kd.R_alloc | apply Kd.R_drewN | apply Kd.R_drew)); exact HO_9.out) hb); have n2_ := Aside0.mk (below_step (by repeat (first | (with_reducible first | exact HB.out | apply below_alloc | apply pw_below_drewN | apply below_drew1) | exact HB.out)) hb); clear HO_6; clear HO_9; clear HB; have HO_6 := n0_; have HO_9 := n1_; have HB := n2_; clear n0_ n1_ n2_; (try clear hb); (try clear hb2); (try clear hk); (try clear hi)))
                      go_ret
                      exact ⟨by first | rfl | (simp [errW_none, errW_some] <;> rfl) | (simp [*, errW_none, errW_some] <;> rfl), by repeat (first | (with_reducible first | exact HB.out | apply below_alloc | apply pw_below_drewN | apply below_drew1) | exact HB.out)⟩
                    · rw [if_neg c45] at H
                      have c45b0 : decide (t126 < 0) = false := decide_eq_false c45
                      clear c45
                      by_cases c49 : t126 = t124
                      · rw [if_pos c49] at H
                        have c49b0 : (t126 == t124) = true := beq_iff_eq.mpr c49
                        have c49b1 : (t126 != t124) = false := bne_eq_false_iff_eq.mpr c49
                        clear c49
                        replace H := Option.bind_eq_some_iff.mp H
                        obtain ⟨t127, A500, H⟩ := H
                        replace H : ((impl_BlocksOfKind.f kj29 t127 a1).bind fun bt130 => ((laws_eqStringS.f kj29 bt130.1 t105).bind fun t134 => (if t134 = true then (laws_FnExactBlocksOfKind.j2 kj29 t125 t124 (bt130.2 != t106)) else (laws_FnExactBlocksOfKind.j2 kj29 t125 t124 true)))) = some r := H
                        have A50 := Aside0.mk A500
                        clear A500
                        replace H := Option.bind_eq_some_iff.mp H
                        obtain ⟨⟨t130, t131⟩, A510, H⟩ := H
                        replace H : ((laws_eqStringS.f kj29 t130 t105).bind fun t134 => (if t134 = true then (laws_FnExactBlocksOfKind.j2 kj29 t125 t124 (t131 != t106)) else (laws_FnExactBlocksOfKind.j2 kj29 t125 t124 true))) = some r := H
                        have A51 := Aside0.mk A510
                        clear A510
                        have HC52 := Aside0.mk H
                        clear H
                        obtain ⟨Ao53, co53, eo53⟩ := Kd.R_slice HO_9.out
                        subst eo53
                        go_upto_region 27 with (first | ((with_reducible refine gate_callee (f := 20) rfl ?_); refine goesL_ (some 71) rfl rfl Try.func20 (by kernel_rfl) rfl #[.slice Ao53 t112.length co53, .int .i64 1] rfl (by (try simp only [List.map_toArray, List.map_cons, List.map_nil]); first | done | rfl | (simp only [List.length_drop, List.length_take]; rfl)) ?_; (with_reducible refine (laws_markStringS.calls kj29 (fun k_ => some k_ = (.slice Ao53 t112.length co53 : Value).ownBlock) (.slice Ao53 t112.length co53) t112 1 t124 t125 w _ ?side1 ?side2 A43.out).mono ?_); (case side1 => repeat (first | (with_reducible first | exact HB.out | apply below_alloc | apply pw_below_drewN | apply below_drew1) | exact HB.out)); (case side2 => exact Kd.R_tight rfl HO_9.out); rintro e w54 ⟨rfl, hy0, hb, hkp⟩; refine ⟨_, rfl, ?_⟩; have n0_ := Aside0.mk (Kd.R_mono (ok' := fun k_ => some k_ ≠ (.slice Ao53 t112.length co53 : Value).ownBlock) (Kd.R_keptB (HO_6.out) hkp (fun k_ hk_ hs_ => (hk_) hs_)) (fun k_ hk_ => hk_.1)); have n1_ := Aside0.mk (Kd.R_reok rfl hy0 (fun k_ e_ => HO_9.out.1 k_ e_)); have n2_ := Aside0.mk (hb); clear HO_6; clear HO_9; clear HB; have HO_6 := n0_; have HO_9 := n1_; have HB := n2_; clear n0_ n1_ n2_; (try clear hb); (try clear hkp); (try clear hy0)) | ((with_reducible refine gate_callee (f := 33) rfl ?_); refine goesL_ (some 74) rfl rfl Try.func33 (by kernel_rfl) rfl #[.slice Ao53 t125.length co53, .int .i64 1] rfl (by (try simp only [List.map_toArray, List.map_cons, List.map_nil]); first | done | (rw [show t125.length = t112.length from (Kd.R_reads' HO_9.out).1.symm] <;> rfl) | rfl | (simp only [List.length_drop, List.length_take]; rfl)) ?_; (with_reducible refine (laws_heldStringS.calls kj29 _ _ t125 1 t126 _ ?side1 ?side2 A44.out).mono ?_); (case side1 => repeat (first | exact (Kd.R_reads' HO_9.out).2.2 | (with_reducible refine Kd.C_alloc ?_ _) | (with_reducible refine Kd.C_drewN ?_ _) | (with_reducible refine Kd.C_drew ?_))); (case side2 => rw [show t125.length = t112.length from (Kd.R_reads' HO_9.out).1.symm]; exact (Kd.R_reads' HO_9.out).2.1); rintro e w55 ⟨rfl, hb⟩; refine ⟨_, rfl, ?_⟩; have n0_ := Aside0.mk (Kd.R_below (by (with_reducible repeat (first | apply Kd.R_alloc | apply Kd.R_drewN | apply Kd.R_drew)); exact HO_6.out) hb); have n1_ := Aside0.mk (Kd.R_below (by (with_reducible repeat (first | apply Kd.R_alloc | apply Kd.R_drewN | apply Kd.R_drew)); exact HO_9.out) hb); have n2_ := Aside0.mk (below_step (by repeat (first | (with_reducible first | exact HB.out | apply below_alloc | apply pw_below_drewN | apply below_drew1) | exact HB.out)) hb); clear HO_6; clear HO_9; clear HB; have HO_6 := n0_; have HO_9 := n1_; have HB := n2_; clear n0_ n1_ n2_; (try clear hb); (try clear hb2); (try clear hk); (try clear hi)) | ((with_reducible refine gate_callee (f := 25) rfl ?_); refine goesL_ (some 82) rfl rfl Try.func25 (by kernel_rfl) rfl #[.slice A0 l0.length c0] rfl (by (try simp only [List.map_toArray, List.map_cons, List.map_nil]); first | done | rfl | (simp only [List.length_drop, List.length_take]; rfl)) ?_; (with_reducible refine (laws_toBlockS.calls kj29 _ _ l0 t127 _ ?side1 ?side2 A50.out).mono ?_); (case side1 => repeat (first | exact (Kd.C_below HR0.out HB.out) | (with_reducible refine Kd.C_alloc ?_ _) | (with_reducible refine Kd.C_drewN ?_ _) | (with_reducible refine Kd.C_drew ?_))); (case side2 => exact HC0.out); rintro e w56 ⟨v128, rfl, ho0, hb⟩; refine ⟨_, rfl, ?_⟩; have n0_ := Aside0.mk (Kd.R_below (by (with_reducible repeat (first | apply Kd.R_alloc | apply Kd.R_drewN | apply Kd.R_drew)); exact HO_6.out) hb); have n1_ := Aside0.mk (Kd.R_below (by (with_reducible repeat (first | apply Kd.R_alloc | apply Kd.R_drewN | apply Kd.R_drew)); exact HO_9.out) hb); have n2_ := Aside0.mk (Kd.R_lower ho0 (below_size (by repeat (first | (with_reducible first | exact HB.out | apply below_alloc | apply pw_below_drewN | apply below_drew1) | exact HB.out)))); have n3_ := Aside0.mk (below_step (by repeat (first | (with_reducible first | exact HB.out | apply below_alloc | apply pw_below_drewN | apply below_drew1) | exact HB.out)) hb); clear HO_6; clear HO_9; clear HB; have HO_6 := n0_; have HO_9 := n1_; have HO129 := n2_; have HB := n3_; clear n0_ n1_ n2_ n3_; (try clear hb); (try clear hb2); (try clear hk); (try clear hi); (try clear ho0); obtain ⟨Ao57, co57, eo57⟩ := Kd.R_slice HO129.out; subst eo57) | ((with_reducible refine gate_callee (f := 35) rfl ?_); refine goesL_ (some 84) rfl rfl Try.func35 (by kernel_rfl) rfl #[.slice Ao57 t127.length co57, .string a1] rfl (by (try simp only [List.map_toArray, List.map_cons, List.map_nil]); first | done | rfl | (simp only [List.length_drop, List.length_take]; rfl)) ?_; (with_reducible refine (impl_BlocksOfKind.calls kj29 _ _ t127 a1 t130 t131 _ ?side1 ?side2 A51.out ?side3).mono ?_); (case side1 => repeat (first | exact (Kd.R_reads' HO129.out).2.2 | (with_reducible refine Kd.C_alloc ?_ _) | (with_reducible refine Kd.C_drewN ?_ _) | (with_reducible refine Kd.C_drew ?_))); (case side2 => exact (Kd.R_reads' HO129.out).2.1); (case side3 => exact HasV.below HV.out (by repeat (first | (with_reducible first | exact HB.out | apply below_alloc | apply pw_below_drewN | apply below_drew1) | exact HB.out))); rintro e w58 ⟨v132, rfl, ho0, hb⟩; refine ⟨_, rfl, ?_⟩; have n0_ := Aside0.mk (Kd.R_elder' (by (with_reducible repeat (first | apply Kd.R_alloc | apply Kd.R_drewN | apply Kd.R_drew)); exact HO_6.out) (Kd.R_base ho0) hb); have n1_ := Aside0.mk (Kd.R_elder' (by (with_reducible repeat (first | apply Kd.R_alloc | apply Kd.R_drewN | apply Kd.R_drew)); exact HO_9.out) (Kd.R_base ho0) hb); have n2_ := Aside0.mk (Kd.R_below (by (with_reducible repeat (first | apply Kd.R_alloc | apply Kd.R_drewN | apply Kd.R_drew)); exact HO129.out) hb); have n3_ := Aside0.mk (Kd.R_lower (Kd.R_new' (Kd.R_new' ho0 (Kd.R_lt (by (with_reducible repeat (first | apply Kd.R_alloc | apply Kd.R_drewN | apply Kd.R_drew)); exact HO_6.out))) (Kd.R_lt (by (with_reducible repeat (first | apply Kd.R_alloc | apply Kd.R_drewN | apply Kd.R_drew)); exact HO_9.out))) (below_size (by repeat (first | (with_reducible first | exact HB.out | apply below_alloc | apply pw_below_drewN | apply below_drew1) | exact HB.out)))); have n4_ := Aside0.mk (below_step (by repeat (first | (with_reducible first | exact HB.out | apply below_alloc | apply pw_below_drewN | apply below_drew1) | exact HB.out)) hb); clear HO_6; clear HO_9; clear HO129; clear HB; have HO_6 := n0_; have HO_9 := n1_; have HO129 := n2_; have HO133 := n3_; have HB := n4_; clear n0_ n1_ n2_ n3_ n4_; (try clear hb); (try clear hb2); (try clear hk); (try clear hi); (try clear ho0)))
                        (try simp only [Act.put, List.setIfInBounds_toArray, List.set_cons_zero, List.set_cons_succ])
                        go_cut [95] (fun v95 wc => ∃ (kq : Nat) (x95_51 : Bool), v95 = .bool x95_51 ∧ Aside0 (laws_FnExactBlocksOfKind.j2 kq t125 t124 x95_51 = some r) ∧ Aside0 (kq ≤ kj29) ∧ Aside0 (Kd.R Kd.string 9 wc w.heap.size (fun _ => True) (.slice Ao53 t112.length co53) t125) ∧ Aside0 (Below w.heap.size w wc))
                        case first =>
                          have H := HC52.out
                          clear HC52
                          replace H := Option.bind_eq_some_iff.mp H
                          obtain ⟨t134, A590, H⟩ := H
                          replace H : (if t134 = true then (laws_FnExactBlocksOfKind.j2 kj29 t125 t124 (t131 != t106)) else (laws_FnExactBlocksOfKind.j2 kj29 t125 t124 true)) = some r := H
                          have A59 := Aside0.mk A590
                          clear A590
                          by_cases c60 : t134 = true
                          · subst c60
                            have H1 : (laws_FnExactBlocksOfKind.j2 kj29 t125 t124 (t131 != t106)) = some r := by rw [if_pos rfl] at H; exact H
                            clear H
                            have H := H1
                            clear H1
                            have H' := Aside0.mk H
                            clear H
                            obtain ⟨Ao61, co61, eo61⟩ := Kd.R_slice HO133.out
                            subst eo61
                            obtain ⟨Ao62, co62, eo62⟩ := Kd.R_slice HO_6.out
                            subst eo62
                            go_wp2_with (first | ((with_reducible refine gate_callee (f := 19) rfl ?_); refine goesL_ (some 89) rfl rfl Try.func19 (by kernel_rfl) rfl #[.slice Ao61 t130.length co61, .slice Ao62 t105.length co62] rfl (by (try simp only [List.map_toArray, List.map_cons, List.map_nil]); first | done | rfl | (simp only [List.length_drop, List.length_take]; rfl)) ?_; (with_reducible refine (laws_eqStringS.calls kj29 _ _ t130 _ _ t105 true _ ?side1 ?side2 ?side3 ?side4 A59.out).mono ?_); (case side1 => repeat (first | exact (Kd.R_reads' HO133.out).2.2 | (with_reducible refine Kd.C_alloc ?_ _) | (with_reducible refine Kd.C_drewN ?_ _) | (with_reducible refine Kd.C_drew ?_))); (case side2 => exact (Kd.R_reads' HO133.out).2.1); (case side3 => repeat (first | exact (Kd.R_reads' HO_6.out).2.2 | (with_reducible refine Kd.C_alloc ?_ _) | (with_reducible refine Kd.C_drewN ?_ _) | (with_reducible refine Kd.C_drew ?_))); (case side4 => exact (Kd.R_reads' HO_6.out).2.1); rintro e w' ⟨rfl, ⟨nd, rfl⟩⟩; refine ⟨_, rfl, ?_⟩))
                            go_meet
                            case rel => exact ⟨_, ((t131 != t106)), (by first | rfl | (simp; done) | (simp [*]; done)), H', ⟨by have := HJ10.out; have := HJ29.out; first | omega | exact Nat.le_refl _⟩, ⟨by (with_reducible repeat (first | apply Kd.R_alloc | apply Kd.R_drewN | apply Kd.R_drew)); exact Kd.R_mono HO_9.out (fun _ hk => trivial)⟩, ⟨by repeat (first | (with_reducible first | exact HB.out | apply below_alloc | apply pw_below_drewN | apply below_drew1) | exact HB.out)⟩⟩
                          · replace c60 := Bool.eq_false_iff.mpr c60
                            subst c60
                            have H1 : (laws_FnExactBlocksOfKind.j2 kj29 t125 t124 true) = some r := by rw [if_neg (show ¬ (false = true) by decide)] at H; exact H
                            clear H
                            have H := H1
                            clear H1
                            have H' := Aside0.mk H
                            clear H
                            obtain ⟨Ao63, co63, eo63⟩ := Kd.R_slice HO133.out
                            subst eo63
                            obtain ⟨Ao64, co64, eo64⟩ := Kd.R_slice HO_6.out
                            subst eo64
                            go_wp2_with (first | ((with_reducible refine gate_callee (f := 19) rfl ?_); refine goesL_ (some 89) rfl rfl Try.func19 (by kernel_rfl) rfl #[.slice Ao63 t130.length co63, .slice Ao64 t105.length co64] rfl (by (try simp only [List.map_toArray, List.map_cons, List.map_nil]); first | done | rfl | (simp only [List.length_drop, List.length_take]; rfl)) ?_; (with_reducible refine (laws_eqStringS.calls kj29 _ _ t130 _ _ t105 false _ ?side1 ?side2 ?side3 ?side4 A59.out).mono ?_); (case side1 => repeat (first | exact (Kd.R_reads' HO133.out).2.2 | (with_reducible refine Kd.C_alloc ?_ _) | (with_reducible refine Kd.C_drewN ?_ _) | (with_reducible refine Kd.C_drew ?_))); (case side2 => exact (Kd.R_reads' HO133.out).2.1); (case side3 => repeat (first | exact (Kd.R_reads' HO_6.out).2.2 | (with_reducible refine Kd.C_alloc ?_ _) | (with_reducible refine Kd.C_drewN ?_ _) | (with_reducible refine Kd.C_drew ?_))); (case side4 => exact (Kd.R_reads' HO_6.out).2.1); rintro e w' ⟨rfl, ⟨nd, rfl⟩⟩; refine ⟨_, rfl, ?_⟩))
                            go_meet
                            case rel => exact ⟨_, (true), (by first | rfl | (simp; done) | (simp [*]; done)), H', ⟨by have := HJ10.out; have := HJ29.out; first | omega | exact Nat.le_refl _⟩, ⟨by (with_reducible repeat (first | apply Kd.R_alloc | apply Kd.R_drewN | apply Kd.R_drew)); exact Kd.R_mono HO_9.out (fun _ hk => trivial)⟩, ⟨by repeat (first | (with_reducible first | exact HB.out | apply below_alloc | apply pw_below_drewN | apply below_drew1) | exact HB.out)⟩⟩
                        case rest =>
                          clear HC52
                          try clear c1
                          try clear c2
                          try clear p2
                          try clear c3
                          try clear c3b0
                          try clear c3b1
                          try clear c4
                          try clear c5
                          try clear c5b0
                          try clear c6
                          try clear c7
                          try clear c19
                          try clear c20
                          try clear c23
                          try clear c25
                          try clear c27
                          try clear c28
                          try clear c33
                          try clear c34
                          try clear c35
                          try clear c35b0
                          try clear c36
                          try clear c37
                          try clear c42
                          try clear c45
                          try clear c45b0
                          try clear c49
                          try clear c49b0
                          try clear c49b1
                          try clear c60
                          try clear p2
                          obtain ⟨kq, x95_51, rfl, HA, HJ51, HO_9, HB⟩ := hcut
                          have hl9_51 := (Kd.R_reads' HO_9.out).1
                          rw [hl9_51] at HO_9
                          (try simp only [hl9_51])
                          cases kq with
                          | zero => exact absurd HA.out (by simp [laws_FnExactBlocksOfKind.j2])
                          | succ kj51 =>
                            have H := HA.out
                            clear HA
                            simp only [laws_FnExactBlocksOfKind.j2] at H
                            by_cases c65 : x95_51 = true
                            · subst c65
                              have H1 : (some false) = some r := by rw [if_pos rfl] at H; exact H
                              clear H
                              have H := H1
                              clear H1
                              obtain rfl := Option.some.inj H
                              go_wp2
                              go_ret
                              exact ⟨by first | rfl | (simp [errW_none, errW_some] <;> rfl) | (simp [*, errW_none, errW_some] <;> rfl), by repeat (first | (with_reducible first | exact HB.out | apply below_alloc | apply pw_below_drewN | apply below_drew1) | exact HB.out)⟩
                            · replace c65 := Bool.eq_false_iff.mpr c65
                              subst c65
                              have H1 : ((laws_heldStringS.f kj51 t125 1).bind fun t135 => (if t135 < 0 then (some false) else (if t135 = t124 then (some true) else (some false)))) = some r := by rw [if_neg (show ¬ (false = true) by decide)] at H; exact H
                              clear H
                              have H := H1
                              clear H1
                              replace H := Option.bind_eq_some_iff.mp H
                              obtain ⟨t135, A660, H⟩ := H
                              replace H : (if t135 < 0 then (some false) else (if t135 = t124 then (some true) else (some false))) = some r := H
                              have A66 := Aside0.mk A660
                              clear A660
                              by_cases c67 : t135 < 0
                              · rw [if_pos c67] at H
                                have c67b0 : decide (t135 < 0) = true := decide_eq_true c67
                                clear c67
                                obtain rfl := Option.some.inj H
                                go_wp2_with (first | ((with_reducible refine gate_callee (f := 33) rfl ?_); refine goesL_ (some 98) rfl rfl Try.func33 (by kernel_rfl) rfl #[.slice Ao53 t125.length co53, .int .i64 1] rfl (by (try simp only [List.map_toArray, List.map_cons, List.map_nil]); first | done | rfl | (simp only [List.length_drop, List.length_take]; rfl)) ?_; (with_reducible refine (laws_heldStringS.calls kj51 _ _ t125 1 t135 _ ?side1 ?side2 A66.out).mono ?_); (case side1 => repeat (first | exact (Kd.R_reads' HO_9.out).2.2 | (with_reducible refine Kd.C_alloc ?_ _) | (with_reducible refine Kd.C_drewN ?_ _) | (with_reducible refine Kd.C_drew ?_))); (case side2 => exact (Kd.R_reads' HO_9.out).2.1); rintro e w68 ⟨rfl, hb⟩; refine ⟨_, rfl, ?_⟩; have n0_ := Aside0.mk (Kd.R_below (by (with_reducible repeat (first | apply Kd.R_alloc | apply Kd.R_drewN | apply Kd.R_drew)); exact HO_9.out) hb); have n1_ := Aside0.mk (below_step (by repeat (first | (with_reducible first | exact HB.out | apply below_alloc | apply pw_below_drewN | apply below_drew1) | exact HB.out)) hb); clear HO_9; clear HB; have HO_9 := n0_; have HB := n1_; clear n0_ n1_; (try clear hb); (try clear hb2); (try clear hk); (try clear hi)))
                                go_ret
                                exact ⟨by first | rfl | (simp [errW_none, errW_some] <;> rfl) | (simp [*, errW_none, errW_some] <;> rfl), by repeat (first | (with_reducible first | exact HB.out | apply below_alloc | apply pw_below_drewN | apply below_drew1) | exact HB.out)⟩
                              · rw [if_neg c67] at H
                                have c67b0 : decide (t135 < 0) = false := decide_eq_false c67
                                clear c67
                                by_cases c69 : t135 = t124
                                · rw [if_pos c69] at H
                                  have c69b0 : (t135 == t124) = true := beq_iff_eq.mpr c69
                                  have c69b1 : (t135 != t124) = false := bne_eq_false_iff_eq.mpr c69
                                  clear c69
                                  obtain rfl := Option.some.inj H
                                  go_wp2_with (first | ((with_reducible refine gate_callee (f := 33) rfl ?_); refine goesL_ (some 98) rfl rfl Try.func33 (by kernel_rfl) rfl #[.slice Ao53 t125.length co53, .int .i64 1] rfl (by (try simp only [List.map_toArray, List.map_cons, List.map_nil]); first | done | rfl | (simp only [List.length_drop, List.length_take]; rfl)) ?_; (with_reducible refine (laws_heldStringS.calls kj51 _ _ t125 1 t135 _ ?side1 ?side2 A66.out).mono ?_); (case side1 => repeat (first | exact (Kd.R_reads' HO_9.out).2.2 | (with_reducible refine Kd.C_alloc ?_ _) | (with_reducible refine Kd.C_drewN ?_ _) | (with_reducible refine Kd.C_drew ?_))); (case side2 => exact (Kd.R_reads' HO_9.out).2.1); rintro e w70 ⟨rfl, hb⟩; refine ⟨_, rfl, ?_⟩; have n0_ := Aside0.mk (Kd.R_below (by (with_reducible repeat (first | apply Kd.R_alloc | apply Kd.R_drewN | apply Kd.R_drew)); exact HO_9.out) hb); have n1_ := Aside0.mk (below_step (by repeat (first | (with_reducible first | exact HB.out | apply below_alloc | apply pw_below_drewN | apply below_drew1) | exact HB.out)) hb); clear HO_9; clear HB; have HO_9 := n0_; have HB := n1_; clear n0_ n1_; (try clear hb); (try clear hb2); (try clear hk); (try clear hi)))
                                  go_ret
                                  exact ⟨by first | rfl | (simp [errW_none, errW_some] <;> rfl) | (simp [*, errW_none, errW_some] <;> rfl), by repeat (first | (with_reducible first | exact HB.out | apply below_alloc | apply pw_below_drewN | apply below_drew1) | exact HB.out)⟩
                                · rw [if_neg c69] at H
                                  have c69b0 : (t135 == t124) = false := beq_eq_false_iff_ne.mpr c69
                                  have c69b1 : (t135 != t124) = true := bne_iff_ne.mpr c69
                                  obtain rfl := Option.some.inj H
                                  go_wp2_with (first | ((with_reducible refine gate_callee (f := 33) rfl ?_); refine goesL_ (some 98) rfl rfl Try.func33 (by kernel_rfl) rfl #[.slice Ao53 t125.length co53, .int .i64 1] rfl (by (try simp only [List.map_toArray, List.map_cons, List.map_nil]); first | done | rfl | (simp only [List.length_drop, List.length_take]; rfl)) ?_; (with_reducible refine (laws_heldStringS.calls kj51 _ _ t125 1 t135 _ ?side1 ?side2 A66.out).mono ?_); (case side1 => repeat (first | exact (Kd.R_reads' HO_9.out).2.2 | (with_reducible refine Kd.C_alloc ?_ _) | (with_reducible refine Kd.C_drewN ?_ _) | (with_reducible refine Kd.C_drew ?_))); (case side2 => exact (Kd.R_reads' HO_9.out).2.1); rintro e w71 ⟨rfl, hb⟩; refine ⟨_, rfl, ?_⟩; have n0_ := Aside0.mk (Kd.R_below (by (with_reducible repeat (first | apply Kd.R_alloc | apply Kd.R_drewN | apply Kd.R_drew)); exact HO_9.out) hb); have n1_ := Aside0.mk (below_step (by repeat (first | (with_reducible first | exact HB.out | apply below_alloc | apply pw_below_drewN | apply below_drew1) | exact HB.out)) hb); clear HO_9; clear HB; have HO_9 := n0_; have HB := n1_; clear n0_ n1_; (try clear hb); (try clear hb2); (try clear hk); (try clear hi)))
                                  go_ret
                                  exact ⟨by first | rfl | (simp [errW_none, errW_some] <;> rfl) | (simp [*, errW_none, errW_some] <;> rfl), by repeat (first | (with_reducible first | exact HB.out | apply below_alloc | apply pw_below_drewN | apply below_drew1) | exact HB.out)⟩
                      · rw [if_neg c49] at H
                        have c49b0 : (t126 == t124) = false := beq_eq_false_iff_ne.mpr c49
                        have c49b1 : (t126 != t124) = true := bne_iff_ne.mpr c49
                        obtain rfl := Option.some.inj H
                        obtain ⟨Ao72, co72, eo72⟩ := Kd.R_slice HO_9.out
                        subst eo72
                        go_wp2_with (first | ((with_reducible refine gate_callee (f := 20) rfl ?_); refine goesL_ (some 71) rfl rfl Try.func20 (by kernel_rfl) rfl #[.slice Ao72 t112.length co72, .int .i64 1] rfl (by (try simp only [List.map_toArray, List.map_cons, List.map_nil]); first | done | rfl | (simp only [List.length_drop, List.length_take]; rfl)) ?_; (with_reducible refine (laws_markStringS.calls kj29 (fun k_ => some k_ = (.slice Ao72 t112.length co72 : Value).ownBlock) (.slice Ao72 t112.length co72) t112 1 t124 t125 w _ ?side1 ?side2 A43.out).mono ?_); (case side1 => repeat (first | (with_reducible first | exact HB.out | apply below_alloc | apply pw_below_drewN | apply below_drew1) | exact HB.out)); (case side2 => exact Kd.R_tight rfl HO_9.out); rintro e w73 ⟨rfl, hy0, hb, hkp⟩; refine ⟨_, rfl, ?_⟩; have n0_ := Aside0.mk (Kd.R_mono (ok' := fun k_ => some k_ ≠ (.slice Ao72 t112.length co72 : Value).ownBlock) (Kd.R_keptB (HO_6.out) hkp (fun k_ hk_ hs_ => (hk_) hs_)) (fun k_ hk_ => hk_.1)); have n1_ := Aside0.mk (Kd.R_reok rfl hy0 (fun k_ e_ => HO_9.out.1 k_ e_)); have n2_ := Aside0.mk (hb); clear HO_6; clear HO_9; clear HB; have HO_6 := n0_; have HO_9 := n1_; have HB := n2_; clear n0_ n1_ n2_; (try clear hb); (try clear hkp); (try clear hy0)) | ((with_reducible refine gate_callee (f := 33) rfl ?_); refine goesL_ (some 74) rfl rfl Try.func33 (by kernel_rfl) rfl #[.slice Ao72 t125.length co72, .int .i64 1] rfl (by (try simp only [List.map_toArray, List.map_cons, List.map_nil]); first | done | (rw [show t125.length = t112.length from (Kd.R_reads' HO_9.out).1.symm] <;> rfl) | rfl | (simp only [List.length_drop, List.length_take]; rfl)) ?_; (with_reducible refine (laws_heldStringS.calls kj29 _ _ t125 1 t126 _ ?side1 ?side2 A44.out).mono ?_); (case side1 => repeat (first | exact (Kd.R_reads' HO_9.out).2.2 | (with_reducible refine Kd.C_alloc ?_ _) | (with_reducible refine Kd.C_drewN ?_ _) | (with_reducible refine Kd.C_drew ?_))); (case side2 => rw [show t125.length = t112.length from (Kd.R_reads' HO_9.out).1.symm]; exact (Kd.R_reads' HO_9.out).2.1); rintro e w74 ⟨rfl, hb⟩; refine ⟨_, rfl, ?_⟩; have n0_ := Aside0.mk (Kd.R_below (by (with_reducible repeat (first | apply Kd.R_alloc | apply Kd.R_drewN | apply Kd.R_drew)); exact HO_6.out) hb); have n1_ := Aside0.mk (Kd.R_below (by (with_reducible repeat (first | apply Kd.R_alloc | apply Kd.R_drewN | apply Kd.R_drew)); exact HO_9.out) hb); have n2_ := Aside0.mk (below_step (by repeat (first | (with_reducible first | exact HB.out | apply below_alloc | apply pw_below_drewN | apply below_drew1) | exact HB.out)) hb); clear HO_6; clear HO_9; clear HB; have HO_6 := n0_; have HO_9 := n1_; have HB := n2_; clear n0_ n1_ n2_; (try clear hb); (try clear hb2); (try clear hk); (try clear hi)))
                        go_ret
                        exact ⟨by first | rfl | (simp [errW_none, errW_some] <;> rfl) | (simp [*, errW_none, errW_some] <;> rfl), by repeat (first | (with_reducible first | exact HB.out | apply below_alloc | apply pw_below_drewN | apply below_drew1) | exact HB.out)⟩
            · replace c28 := Bool.eq_false_iff.mpr c28
              subst c28
              have H1 : (some false) = some r := by rw [if_neg (show ¬ (false = true) by decide)] at H; exact H
              clear H
              have H := H1
              clear H1
              obtain rfl := Option.some.inj H
              go_wp2_with (first | ((with_reducible refine gate_callee (f := 25) rfl ?_); refine goesL_ (some 50) rfl rfl Try.func25 (by kernel_rfl) rfl #[.slice A0 l0.length c0] rfl (by (try simp only [List.map_toArray, List.map_cons, List.map_nil]); first | done | rfl | (simp only [List.length_drop, List.length_take]; rfl)) ?_; (with_reducible refine (laws_toBlockS.calls kj10 _ _ l0 t117 _ ?side1 ?side2 A26.out).mono ?_); (case side1 => repeat (first | exact (Kd.C_below HR0.out HB.out) | (with_reducible refine Kd.C_alloc ?_ _) | (with_reducible refine Kd.C_drewN ?_ _) | (with_reducible refine Kd.C_drew ?_))); (case side2 => exact HC0.out); rintro e w75 ⟨v118, rfl, ho0, hb⟩; refine ⟨_, rfl, ?_⟩; have n0_ := Aside0.mk (Kd.R_below (by (with_reducible repeat (first | apply Kd.R_alloc | apply Kd.R_drewN | apply Kd.R_drew)); exact HO_6.out) hb); have n1_ := Aside0.mk (Kd.R_elder' (by (with_reducible repeat (first | apply Kd.R_alloc | apply Kd.R_drewN | apply Kd.R_drew)); exact HO_8.out) (Kd.R_base ho0) hb); have n2_ := Aside0.mk (Kd.R_below (by (with_reducible repeat (first | apply Kd.R_alloc | apply Kd.R_drewN | apply Kd.R_drew)); exact HO_9.out) hb); have n3_ := Aside0.mk (Kd.R_lower (Kd.R_new' ho0 (Kd.R_lt (by (with_reducible repeat (first | apply Kd.R_alloc | apply Kd.R_drewN | apply Kd.R_drew)); exact HO_8.out))) (below_size (by repeat (first | (with_reducible first | exact HB.out | apply below_alloc | apply pw_below_drewN | apply below_drew1) | exact HB.out)))); have n4_ := Aside0.mk (below_step (by repeat (first | (with_reducible first | exact HB.out | apply below_alloc | apply pw_below_drewN | apply below_drew1) | exact HB.out)) hb); clear HO_6; clear HO_8; clear HO_9; clear HB; have HO_6 := n0_; have HO_8 := n1_; have HO_9 := n2_; have HO119 := n3_; have HB := n4_; clear n0_ n1_ n2_ n3_ n4_; (try clear hb); (try clear hb2); (try clear hk); (try clear hi); (try clear ho0); obtain ⟨Ao76, co76, eo76⟩ := Kd.R_slice HO119.out; subst eo76) | ((with_reducible refine gate_callee (f := 27) rfl ?_); refine goesL_ (some 51) rfl rfl Try.func27 (by kernel_rfl) rfl #[.slice Ao17 t109.length co17, .slice Ao76 t117.length co76] rfl (by (try simp only [List.map_toArray, List.map_cons, List.map_nil]); first | done | rfl | (simp only [List.length_drop, List.length_take]; rfl)) ?_; (with_reducible refine (laws_eqBlockS.calls kj10 _ _ t109 _ _ t117 false _ ?side1 ?side2 ?side3 ?side4 A27.out).mono ?_); (case side1 => repeat (first | exact (Kd.R_reads' HO_8.out).2.2 | (with_reducible refine Kd.C_alloc ?_ _) | (with_reducible refine Kd.C_drewN ?_ _) | (with_reducible refine Kd.C_drew ?_))); (case side2 => exact (Kd.R_reads' HO_8.out).2.1); (case side3 => repeat (first | exact (Kd.R_reads' HO119.out).2.2 | (with_reducible refine Kd.C_alloc ?_ _) | (with_reducible refine Kd.C_drewN ?_ _) | (with_reducible refine Kd.C_drew ?_))); (case side4 => exact (Kd.R_reads' HO119.out).2.1); rintro e w77 ⟨rfl, hb⟩; refine ⟨_, rfl, ?_⟩; have n0_ := Aside0.mk (Kd.R_below (by (with_reducible repeat (first | apply Kd.R_alloc | apply Kd.R_drewN | apply Kd.R_drew)); exact HO_6.out) hb); have n1_ := Aside0.mk (Kd.R_below (by (with_reducible repeat (first | apply Kd.R_alloc | apply Kd.R_drewN | apply Kd.R_drew)); exact HO_8.out) hb); have n2_ := Aside0.mk (Kd.R_below (by (with_reducible repeat (first | apply Kd.R_alloc | apply Kd.R_drewN | apply Kd.R_drew)); exact HO_9.out) hb); have n3_ := Aside0.mk (Kd.R_below (by (with_reducible repeat (first | apply Kd.R_alloc | apply Kd.R_drewN | apply Kd.R_drew)); exact HO119.out) hb); have n4_ := Aside0.mk (below_step (by repeat (first | (with_reducible first | exact HB.out | apply below_alloc | apply pw_below_drewN | apply below_drew1) | exact HB.out)) hb); clear HO_6; clear HO_8; clear HO_9; clear HO119; clear HB; have HO_6 := n0_; have HO_8 := n1_; have HO_9 := n2_; have HO119 := n3_; have HB := n4_; clear n0_ n1_ n2_ n3_ n4_; (try clear hb); (try clear hb2); (try clear hk); (try clear hi)))
              go_ret
              exact ⟨by first | rfl | (simp [errW_none, errW_some] <;> rfl) | (simp [*, errW_none, errW_some] <;> rfl), by repeat (first | (with_reducible first | exact HB.out | apply below_alloc | apply pw_below_drewN | apply below_drew1) | exact HB.out)⟩

end Go.Proofs.Ytpdggpfobbkdnaa.A
namespace Go.Proofs.Ytpdggpfobbkdnaa.A
open Go.RowKit Go.Proofs.YtpdggpfobbkdnaaW.PrintWords Go.Proofs.YtpdggpfobbkdnaaW.PrintLast Go.Proofs.Ytpdggpfobbkdnaa.A
def wf66 (b : S66) : Prop := (b.f0.size ≤ maxLen) ∧ (b.f1.size ≤ maxLen) ∧ (b.f2.size ≤ maxLen)
def laws_FnExactBlocksOfKind.Pure : Prop := ∀ (l0 : List (S66)) (a1 : ByteArray), (l0.length ≤ maxLen ∧ ∀ z ∈ l0, wf66 z) → a1.size ≤ 140737488351232 → ∃ k, laws_FnExactBlocksOfKind.f k l0 a1 = some true
end Go.Proofs.Ytpdggpfobbkdnaa.A
namespace Go.Proofs.Ytpdggpfobbkdnaa.A
open Go.RowKit Go.Proofs.YtpdggpfobbkdnaaW.PrintWords Go.Proofs.YtpdggpfobbkdnaaW.PrintLast
theorem Ev.pos {α : Type} {c : Prop} [Decidable c] {f g : Nat → Option α} {r : α} (h : c) (k : Ev f r) : Ev (fun n => if c then f n else g n) r := by
  simpa only [if_pos h] using k
theorem Ev.neg {α : Type} {c : Prop} [Decidable c] {f g : Nat → Option α} {r : α} (h : ¬ c) (k : Ev g r) : Ev (fun n => if c then f n else g n) r := by
  simpa only [if_neg h] using k
theorem Ev.succ {α : Type} {g : Nat → Option α} {r : α} (k : Ev (fun n => g (n + 1)) r) : Ev g r := Ev.step (fun _ => rfl) k
theorem Ev.to {α : Type} {g : Nat → Option α} {r s : α} (h : Ev g r) (e : r = s) : Ev g s := e ▸ h
theorem Ev.uniq {α : Type} {g : Nat → Option α} {r s : α} (h : Ev g r) (h' : Ev g s) : r = s := by
  obtain ⟨K, h⟩ := h
  obtain ⟨K', h'⟩ := h'
  have a := h (max K K') (by omega)
  have b := h' (max K K') (by omega)
  exact Option.some.inj (a.symm.trans b)
theorem Ev.const {α : Type} {o : Option α} {r : α} (h : o = some r) : Ev (fun _ => o) r := ⟨0, fun _ _ => h⟩
theorem Ev.get {α : Type} {o : Option α} {r : α} (h : Ev (fun _ => o) r) : o = some r := by
  obtain ⟨K, h⟩ := h
  exact h K (Nat.le_refl _)
theorem w64 {x : Int} (h1 : -9223372036854775808 ≤ x) (h2 : x ≤ 9223372036854775807) : wrap64 x = x := by
  unfold wrap64
  omega
theorem w64_succ {i n : Nat} (h : i < n) (hn : n ≤ 9223372036854775807) : wrap64 ((i : Int) + 1) = ((i + 1 : Nat) : Int) := by
  rw [w64 (by omega) (by omega)]
  omega
theorem rdOf_at {α : Type} (d : α) (xs : List α) (i : Nat) (h : i < xs.length) : rdOf d xs (i : Int) = xs[i] := by
  simp [rdOf, List.getD_eq_getElem?_getD, List.getElem?_eq_getElem h]
theorem rd_at (xs : List Int) (i : Nat) (h : i < xs.length) : rd xs (i : Int) = xs[i] := by
  simp [rd, List.getD_eq_getElem?_getD, List.getElem?_eq_getElem h]
theorem bt_at_nat (s : ByteArray) (i : Nat) (h : i < s.size) : bt s (i : Int) = (s[i].toNat : Int) := by
  simp [bt, h]
theorem toList_eq (s : ByteArray) : s.toList = s.data.toList := Go.ByteArray.toList_eq s
theorem bytes_ext {s t : ByteArray} (h : s.toList = t.toList) : s = t := by
  rw [toList_eq, toList_eq] at h
  obtain ⟨⟨a⟩⟩ := s
  obtain ⟨⟨b⟩⟩ := t
  simp at h
  rw [h]
theorem ba_size (s : ByteArray) : s.data.toList.length = s.size := Nat.add_zero _
theorem ba_toList_len (s : ByteArray) : s.toList.length = s.size := by rw [toList_eq, ba_size]
theorem ba_get (s : ByteArray) (i : Nat) (h : i < s.size) : s.data.toList[i]? = some s[i] := by
  have h' : i < s.data.toList.length := by rw [ba_size]; exact h
  rw [List.getElem?_eq_getElem h']
  rfl
end Go.Proofs.Ytpdggpfobbkdnaa.A
namespace Go.Proofs.Ytpdggpfobbkdnaa.A
open Go.RowKit Go.Proofs.YtpdggpfobbkdnaaW.PrintWords Go.Proofs.YtpdggpfobbkdnaaW.PrintLast
def chOk (c : UInt8) : Bool := (decide (97 ≤ c.toNat) && decide (c.toNat ≤ 122)) || (decide (48 ≤ c.toNat) && decide (c.toNat ≤ 57))
def nmFrom (s : ByteArray) (i : Nat) : Bool := (s.data.toList.drop i).all chOk
theorem nmFrom_end (s : ByteArray) : nmFrom s s.size = true := by
  unfold nmFrom
  rw [List.drop_of_length_le (by rw [ba_size]; omega)]
  rfl
theorem nmFrom_succ (s : ByteArray) (i : Nat) (h : i < s.size) : nmFrom s i = (chOk s[i] && nmFrom s (i + 1)) := by
  unfold nmFrom
  have h' : i < s.data.toList.length := by rw [ba_size]; exact h
  rw [List.drop_eq_getElem_cons h', List.all_cons]
  rfl
/-- Is a text a name. -/
def isNm (s : ByteArray) : Bool := decide (1 ≤ s.size) && (decide (s.size ≤ 10) && ((decide (97 ≤ bt s 0) && decide (bt s 0 ≤ 122)) && nmFrom s 0))
theorem l01Small_eq (c : Int) : spec_l01Small.f c = some (decide (97 ≤ c) && decide (c ≤ 122)) := by
  unfold spec_l01Small.f
  by_cases h : c ≥ 97
  · rw [if_pos h, decide_eq_true (by omega : 97 ≤ c), Bool.true_and]
  · rw [if_neg h, decide_eq_false (by omega : ¬ 97 ≤ c), Bool.false_and]
theorem l01Digit_eq (c : Int) : spec_l01Digit.f c = some (decide (48 ≤ c) && decide (c ≤ 57)) := by
  unfold spec_l01Digit.f
  by_cases h : c ≥ 48
  · rw [if_pos h, decide_eq_true (by omega : 48 ≤ c), Bool.true_and]
  · rw [if_neg h, decide_eq_false (by omega : ¬ 48 ≤ c), Bool.false_and]
theorem l01Name_l0 (s : ByteArray) (hs : s.size ≤ 9223372036854775807) : ∀ (d i : Nat), i + d = s.size → Ev (fun k => spec_l01Name.l0 k s i) (nmFrom s i) := by
  intro d
  induction d with
  | zero =>
    intro i hi
    refine Ev.succ ?_
    simp only [spec_l01Name.l0]
    obtain rfl : i = s.size := by omega
    rw [nmFrom_end]
    exact Ev.neg (by omega) (Ev.now _)
  | succ d ih =>
    intro i hi
    have hlt : i < s.size := by omega
    refine Ev.succ ?_
    simp only [spec_l01Name.l0, bt_at_nat s i hlt, w64_succ hlt hs, l01Small_eq, l01Digit_eq, Option.bind_some]
    rw [nmFrom_succ _ _ hlt, chOk]
    refine Ev.pos (by omega) (Ev.pos (by omega) ?_)
    have e1 : (decide ((97 : Int) ≤ (s[i].toNat : Int)) && decide ((s[i].toNat : Int) ≤ 122)) = (decide (97 ≤ s[i].toNat) && decide (s[i].toNat ≤ 122)) := by
      rw [Bool.eq_iff_iff]
      simp
      omega
    have e2 : (decide ((48 : Int) ≤ (s[i].toNat : Int)) && decide ((s[i].toNat : Int) ≤ 57)) = (decide (48 ≤ s[i].toNat) && decide (s[i].toNat ≤ 57)) := by
      rw [Bool.eq_iff_iff]
      simp
      omega
    rw [e1, e2]
    cases h1 : (decide (97 ≤ s[i].toNat) && decide (s[i].toNat ≤ 122)) with
    | true => exact Ev.pos rfl (Ev.to (ih (i + 1) (by omega)) (by simp))
    | false =>
      cases h2 : (decide (48 ≤ s[i].toNat) && decide (s[i].toNat ≤ 57)) with
      | true => exact Ev.neg (by decide) (Ev.pos rfl (Ev.to (ih (i + 1) (by omega)) (by simp)))
      | false => exact Ev.neg (by decide) (Ev.neg (by decide) (Ev.to (Ev.now _) (by simp)))
theorem nil_of_size {s : ByteArray} (h : s.toList = ([] : List UInt8)) : s.size = 0 := by
  rw [← ba_toList_len, h]
  rfl
theorem l01Name_ev (s : ByteArray) (hs : s.size ≤ 9223372036854775807) : Ev (fun k => spec_l01Name.f k s) (isNm s) := by
  simp only [spec_l01Name.f, l01Small_eq, Option.bind_some, isNm]
  by_cases h0 : s.toList = ([] : List UInt8)
  · have hz := nil_of_size h0
    refine Ev.pos h0 (Ev.succ ?_)
    simp only [spec_l01Name.j0]
    exact Ev.pos trivial (Ev.to (Ev.now _) (by rw [hz]; rfl))
  · refine Ev.neg h0 ?_
    have hne : s.size ≠ 0 := fun h => h0 (by rw [← List.length_eq_zero_iff, ba_toList_len]; exact h)
    by_cases h1 : (s.size : Int) > 10
    · refine Ev.pos h1 (Ev.succ ?_)
      simp only [spec_l01Name.j0]
      exact Ev.pos trivial (Ev.to (Ev.now _) (by rw [decide_eq_false (by omega : ¬ s.size ≤ 10)]; simp))
    · refine Ev.neg h1 (Ev.pos (by omega) (Ev.succ ?_))
      simp only [spec_l01Name.j0]
      rw [decide_eq_true (by omega : 1 ≤ s.size), decide_eq_true (by omega : s.size ≤ 10), Bool.true_and, Bool.true_and]
      cases h2 : (decide ((97 : Int) ≤ bt s 0) && decide (bt s 0 ≤ 122)) with
      | true => exact Ev.neg (by decide) (Ev.to (l01Name_l0 s hs s.size 0 (by omega)) (by simp))
      | false => exact Ev.pos rfl (Ev.to (Ev.now _) (by simp))
theorem onlyNameBytes_l0 (s : ByteArray) (hs : s.size ≤ 9223372036854775807) : ∀ (d i : Nat), i + d = s.size → Ev (fun k => impl_onlyNameBytes.l0 k s (s.size : Int) i) (nmFrom s i) := by
  intro d
  induction d with
  | zero =>
    intro i hi
    refine Ev.succ ?_
    simp only [impl_onlyNameBytes.l0]
    obtain rfl : i = s.size := by omega
    rw [nmFrom_end]
    exact Ev.neg (by omega) (Ev.now _)
  | succ d ih =>
    intro i hi
    have hlt : i < s.size := by omega
    refine Ev.succ ?_
    simp only [impl_onlyNameBytes.l0, bt_at_nat s i hlt, w64_succ hlt hs]
    rw [nmFrom_succ _ _ hlt]
    refine Ev.pos (by omega) (Ev.pos (by omega) (Ev.pos (by omega) ?_))
    have yes : chOk s[i] = true → (chOk s[i] && nmFrom s (i + 1)) = nmFrom s (i + 1) := fun h => by rw [h, Bool.true_and]
    have no : chOk s[i] = false → false = (chOk s[i] && nmFrom s (i + 1)) := fun h => by rw [h, Bool.false_and]
    have hc : chOk s[i] = true ↔ (97 ≤ s[i].toNat ∧ s[i].toNat ≤ 122) ∨ (48 ≤ s[i].toNat ∧ s[i].toNat ≤ 57) := by simp [chOk]
    have hn : chOk s[i] = false ↔ ¬ ((97 ≤ s[i].toNat ∧ s[i].toNat ≤ 122) ∨ (48 ≤ s[i].toNat ∧ s[i].toNat ≤ 57)) := by rw [← hc, Bool.not_eq_true]
    have go := ih (i + 1) (by omega)
    have digit : ¬ (97 ≤ s[i].toNat ∧ s[i].toNat ≤ 122) → Ev (fun k => if (s[i].toNat : Int) < 48 then some false else if (s[i].toNat : Int) > 57 then some false else impl_onlyNameBytes.l0 k s (s.size : Int) ((i + 1 : Nat) : Int)) (chOk s[i] && nmFrom s (i + 1)) := by
      intro hs
      by_cases h3 : (s[i].toNat : Int) < 48
      · exact Ev.pos h3 (Ev.to (Ev.now _) (no (hn.2 (by omega))))
      · by_cases h4 : (s[i].toNat : Int) > 57
        · exact Ev.neg h3 (Ev.pos h4 (Ev.to (Ev.now _) (no (hn.2 (by omega)))))
        · exact Ev.neg h3 (Ev.neg h4 (Ev.to go (yes (hc.2 (by omega))).symm))
    by_cases h1 : (s[i].toNat : Int) < 97
    · exact Ev.pos h1 (digit (by omega))
    · by_cases h2 : (s[i].toNat : Int) > 122
      · exact Ev.neg h1 (Ev.pos h2 (digit (by omega)))
      · exact Ev.neg h1 (Ev.neg h2 (Ev.to go (yes (hc.2 (by omega))).symm))
theorem IsName_ev (s : ByteArray) (hs : s.size ≤ 9223372036854775807) : Ev (fun k => impl_IsName.f k s) (isNm s) := by
  simp only [impl_IsName.f, isNm]
  by_cases h0 : (s.size : Int) < 1
  · exact Ev.pos h0 (Ev.to (Ev.now _) (by rw [decide_eq_false (by omega : ¬ 1 ≤ s.size)]; rfl))
  · refine Ev.neg h0 ?_
    rw [decide_eq_true (by omega : 1 ≤ s.size), Bool.true_and]
    by_cases h1 : (s.size : Int) > 10
    · exact Ev.pos h1 (Ev.to (Ev.now _) (by rw [decide_eq_false (by omega : ¬ s.size ≤ 10)]; rfl))
    · refine Ev.neg h1 (Ev.pos (by omega) ?_)
      rw [decide_eq_true (by omega : s.size ≤ 10), Bool.true_and]
      by_cases h2 : bt s 0 < 97
      · exact Ev.pos h2 (Ev.to (Ev.now _) (by rw [decide_eq_false (by omega : ¬ 97 ≤ bt s 0)]; rfl))
      · by_cases h3 : bt s 0 > 122
        · exact Ev.neg h2 (Ev.pos h3 (Ev.to (Ev.now _) (by rw [decide_eq_false (by omega : ¬ bt s 0 ≤ 122)]; simp)))
        · refine Ev.neg h2 (Ev.neg h3 ?_)
          rw [decide_eq_true (by omega : 97 ≤ bt s 0), decide_eq_true (by omega : bt s 0 ≤ 122)]
          simp only [impl_onlyNameBytes.f]
          exact Ev.bind (onlyNameBytes_l0 s hs s.size 0 (by omega)) (Ev.to (Ev.now _) (by simp))
end Go.Proofs.Ytpdggpfobbkdnaa.A
namespace Go.Proofs.Ytpdggpfobbkdnaa.A
open Go.RowKit Go.Proofs.YtpdggpfobbkdnaaW.PrintWords Go.Proofs.YtpdggpfobbkdnaaW.PrintLast
abbrev Blk := S69
def blkOk (b : Blk) : Bool := isNm b.f0 && (isNm b.f1 && (decide (b.f2.size ≤ 400) && !b.f2.data.toList.contains 10))
/-- Does a block stand before another. -/
def blkLt (a b : Blk) : Bool := Op.bytesLess a.f0.toList b.f0.toList || (a.f0.toList == b.f0.toList && Op.bytesLess a.f1.toList b.f1.toList)
theorem rdB_at (l : List Blk) (i : Nat) (h : i < l.length) : rd_T69 l (i : Int) = l[i] := by
  simp [rd_T69, List.getD_eq_getElem?_getD, List.getElem?_eq_getElem h]
/-- Blocks whose texts fit into memory. -/
def BFit (b : Blk) : Prop := b.f0.size ≤ 9223372036854775807 ∧ b.f1.size ≤ 9223372036854775807 ∧ b.f2.size ≤ 9223372036854775807
def noNl (s : ByteArray) (i : Nat) : Bool := !(s.data.toList.drop i).contains 10
theorem noNl_succ (s : ByteArray) (i : Nat) (h : i < s.size) : noNl s i = (!(s[i] == 10) && noNl s (i + 1)) := by
  unfold noNl
  have h' : i < s.data.toList.length := by rw [ba_size]; exact h
  rw [List.drop_eq_getElem_cons h', List.contains_cons, Bool.not_or]
  congr 2
  rw [Bool.eq_iff_iff, beq_iff_eq, beq_iff_eq]
  exact eq_comm
theorem l29One_l0 (l : List Blk) (p : Nat) (hp : p < l.length) (hf : BFit l[p]) : ∀ (d i : Nat), i + d = l[p].f2.size →
    Ev (fun k => spec_l29One.l0 k i l p) (isNm l[p].f0 && (isNm l[p].f1 && (decide (l[p].f2.size ≤ 400) && noNl l[p].f2 i))) := by
  intro d
  induction d with
  | zero =>
    intro i hi
    refine Ev.succ ?_
    simp only [spec_l29One.l0, rdB_at l p hp]
    have hn : noNl l[p].f2 i = true := by
      unfold noNl
      rw [List.drop_of_length_le (by rw [ba_size]; omega)]
      rfl
    rw [hn]
    refine Ev.neg (by omega) (Ev.bind (l01Name_ev _ hf.1) ?_)
    cases h0 : isNm l[p].f0 with
    | false => exact Ev.neg (by decide) (Ev.now _)
    | true =>
      refine Ev.pos rfl (Ev.bind (l01Name_ev _ hf.2.1) ?_)
      cases h1 : isNm l[p].f1 with
      | false => exact Ev.neg (by decide) (Ev.now _)
      | true => exact Ev.pos rfl (Ev.to (Ev.now _) (by rw [Bool.eq_iff_iff]; simp; omega))
  | succ d ih =>
    intro i hi
    have hlt : i < l[p].f2.size := by omega
    refine Ev.succ ?_
    simp only [spec_l29One.l0, rdB_at l p hp, bt_at_nat _ i hlt, w64_succ hlt hf.2.2]
    rw [noNl_succ _ _ hlt]
    refine Ev.pos (by omega) (Ev.pos (by omega) ?_)
    by_cases h : (l[p].f2[i].toNat : Int) = 10
    · refine Ev.pos h (Ev.to (Ev.now _) ?_)
      have : (l[p].f2[i] == 10) = true := by
        rw [beq_iff_eq]
        exact UInt8.toNat_inj.1 (by show _ = 10; omega)
      rw [this]
      simp
    · refine Ev.neg h (Ev.to (ih (i + 1) (by omega)) ?_)
      have : (l[p].f2[i] == 10) = false := by
        rw [beq_eq_false_iff_ne]
        intro e
        rw [e] at h
        exact h rfl
      rw [this]
      simp
theorem l29One_ev (l : List Blk) (p : Nat) (hp : p < l.length) (hf : BFit l[p]) : Ev (fun k => spec_l29One.f k l p) (blkOk l[p]) := by
  simp only [spec_l29One.f]
  refine Ev.to (l29One_l0 l p hp hf l[p].f2.size 0 (by omega)) ?_
  rfl
theorem l29Before_eq (l m : List Blk) (i j : Nat) (hi : i < l.length) (hj : j < m.length) : spec_l29Before.f l i m j = some (blkLt l[i] m[j]) := by
  unfold spec_l29Before.f blkLt
  rw [rdB_at l i hi, rdB_at m j hj]
  cases h : Op.bytesLess l[i].f0.toList m[j].f0.toList with
  | true => rw [if_pos rfl]; rfl
  | false =>
    rw [if_neg (by decide), Bool.false_or]
    by_cases e : l[i].f0.toList = m[j].f0.toList
    · rw [if_pos e, beq_iff_eq.2 e, Bool.true_and]
    · rw [if_neg e, beq_eq_false_iff_ne.2 e, Bool.false_and]
theorem contains_nl (s : ByteArray) : Go.Lib.contains s.data.toList (⟨#[10]⟩ : ByteArray).data.toList = s.data.toList.contains 10 := by
  rw [Go.Lib.contains_iff_indexByte]
  show decide (0 ≤ Go.Lib.index s.data.toList [10]) = _
  rw [Go.Lib.index_one]
theorem ValidBlock_ev (b : Blk) (hf : BFit b) : Ev (fun k => impl_ValidBlock.f k b.f0 b.f1 b.f2) (blkOk b) := by
  simp only [impl_ValidBlock.f, blkOk]
  refine Ev.bind (IsName_ev _ hf.1) ?_
  cases h0 : isNm b.f0 with
  | false => exact Ev.neg (by decide) (Ev.now _)
  | true =>
    refine Ev.pos rfl (Ev.bind (IsName_ev _ hf.2.1) ?_)
    cases h1 : isNm b.f1 with
    | false => exact Ev.neg (by decide) (Ev.now _)
    | true =>
      refine Ev.pos rfl ?_
      by_cases h2 : (b.f2.size : Int) ≤ 400
      · refine Ev.pos h2 ?_
        refine Ev.bind (a := b.f2.data.toList.contains 10) (Ev.const ?_) (Ev.to (Ev.now _) ?_)
        · unfold strings_Contains.f
          rw [if_pos (by omega), contains_nl]
        · rw [decide_eq_true (by omega : b.f2.size ≤ 400)]
          simp
      · exact Ev.neg h2 (Ev.to (Ev.now _) (by rw [decide_eq_false (by omega : ¬ b.f2.size ≤ 400)]; simp))
/-- The order of two texts, as a number. -/
def cmpS (a b : List UInt8) : Int := if Op.bytesLess a b = true then -1 else if Op.bytesLess b a = true then 1 else 0
theorem bl_irr : ∀ a : List UInt8, Op.bytesLess a a = false
  | [] => rfl
  | x :: a => by
    unfold Op.bytesLess
    rw [bl_irr a]
    simp
theorem bl_tri (a b : List UInt8) : Op.bytesLess a b = true ∨ a = b ∨ Op.bytesLess b a = true := by
  have := bytesLess_total a b
  cases h1 : Op.bytesLess a b with
  | true => exact .inl rfl
  | false =>
    rw [h1, Bool.false_or] at this
    cases h2 : (a == b) with
    | true => exact .inr (.inl (beq_iff_eq.1 h2))
    | false => rw [h2] at this; exact .inr (.inr this.symm)
theorem bl_asym {a b : List UInt8} (h : Op.bytesLess a b = true) : Op.bytesLess b a = false := by
  have := bytesLess_total a b
  rw [h] at this
  exact this.symm
theorem Compare_eq (a b : ByteArray) : cmp_Compare_string.f a b = some (cmpS a.toList b.toList) := by
  unfold cmp_Compare_string.f cmp_isNaN_string.f cmpS
  simp only [Option.bind_some, bne_self_eq_false, Bool.false_eq_true, if_false]
  split
  · rfl
  · split <;> rfl
theorem Or_ev (x y : Int) : Ev (fun k => cmp_Or_int.f k [x, y]) (if x = 0 then y else x) := by
  simp only [cmp_Or_int.f]
  refine Ev.succ ?_
  simp only [cmp_Or_int.l0]
  refine Ev.pos (by simp) (Ev.pos (by omega) (Ev.pos (by simp) ?_))
  have e0 : rd [x, y] 0 = x := rfl
  rw [e0]
  by_cases h : x = 0
  · rw [if_pos h]
    refine Ev.pos h (Ev.succ ?_)
    have e1 : wrap64 (0 + 1) = 1 := by rw [w64 (by omega) (by omega)]; rfl
    have e2 : rd [x, y] 1 = y := rfl
    simp only [cmp_Or_int.l0, e1, e2]
    refine Ev.pos (by simp) (Ev.pos (by omega) (Ev.pos (by simp) ?_))
    by_cases h' : y = 0
    · refine Ev.pos h' (Ev.succ ?_)
      have e3 : wrap64 (1 + 1) = 2 := by rw [w64 (by omega) (by omega)]; rfl
      simp only [cmp_Or_int.l0, e3]
      exact Ev.neg (by simp) (Ev.to (Ev.now _) h'.symm)
    · exact Ev.neg h' (Ev.now _)
  · rw [if_neg h]
    exact Ev.neg h (Ev.now _)
/-- The order of two blocks, as a number. -/
def cmpB (a b : Blk) : Int := if cmpS a.f0.toList b.f0.toList = 0 then cmpS a.f1.toList b.f1.toList else cmpS a.f0.toList b.f0.toList
theorem compareBlocks_ev (a b : Blk) : Ev (fun k => impl_compareBlocks.f k a.f0 a.f1 a.f2 b.f0 b.f1 b.f2) (cmpB a b) := by
  simp only [impl_compareBlocks.f, Compare_eq, Option.bind_some]
  exact Ev.bind (Or_ev _ _) (Ev.now _)
theorem cmpS_neg (a b : List UInt8) : cmpS a b < 0 ↔ Op.bytesLess a b = true := by
  unfold cmpS
  constructor
  · intro h
    split at h
    · assumption
    · split at h <;> omega
  · intro h
    rw [if_pos h]
    decide
theorem cmpS_zero (a b : List UInt8) : cmpS a b = 0 ↔ a = b := by
  unfold cmpS
  constructor
  · intro h
    rcases bl_tri a b with h1 | h1 | h1
    · rw [if_pos h1] at h
      omega
    · exact h1
    · rw [if_neg (by rw [bl_asym h1]; decide), if_pos h1] at h
      omega
  · rintro rfl
    rw [bl_irr]
    decide
theorem cmpB_neg (a b : Blk) : cmpB a b < 0 ↔ blkLt a b = true := by
  unfold cmpB blkLt
  by_cases h : cmpS a.f0.toList b.f0.toList = 0
  · rw [if_pos h, cmpS_neg]
    have e := (cmpS_zero _ _).1 h
    rw [e, bl_irr]
    simp
  · rw [if_neg h, cmpS_neg]
    have e : a.f0.toList ≠ b.f0.toList := fun e => h ((cmpS_zero _ _).2 e)
    rw [beq_eq_false_iff_ne.2 e]
    simp
theorem cmpB_zero (a b : Blk) : cmpB a b = 0 ↔ a.f0 = b.f0 ∧ a.f1 = b.f1 := by
  unfold cmpB
  by_cases h : cmpS a.f0.toList b.f0.toList = 0
  · rw [if_pos h, cmpS_zero]
    have e := bytes_ext ((cmpS_zero _ _).1 h)
    exact ⟨fun h => ⟨e, bytes_ext h⟩, fun h => by rw [h.2]⟩
  · rw [if_neg h]
    exact ⟨fun h' => absurd h' h, fun h' => absurd ((cmpS_zero _ _).2 (by rw [h'.1])) h⟩
/-- From place i on: each block is in order, and stands behind the one before it. -/
def okFromB (l : List Blk) : Nat → Nat → Bool
  | 0, _ => true
  | d + 1, i => (match l[i]? with | none => true | some b => blkOk b && (match i with | 0 => true | j + 1 => match l[j]? with | none => true | some a => blkLt a b)) && okFromB l d (i + 1)
/-- Is a list of blocks valid. -/
def blksOk (l : List Blk) : Bool := okFromB l l.length 0 && decide (l.length ≤ 32)
theorem l29Ok_l0 (l : List Blk) (hl : l.length ≤ 9223372036854775807) (hf : ∀ b ∈ l, BFit b) : ∀ (d i : Nat), i + d = l.length → Ev (fun k => spec_l29Ok.l0 k l i) (okFromB l d i && decide (l.length ≤ 32)) := by
  intro d
  induction d with
  | zero =>
    intro i hi
    refine Ev.succ ?_
    simp only [spec_l29Ok.l0, okFromB]
    exact Ev.neg (by omega) (Ev.to (Ev.now _) (by rw [Bool.eq_iff_iff]; simp; omega))
  | succ d ih =>
    intro i hi
    have hlt : i < l.length := by omega
    refine Ev.succ ?_
    simp only [spec_l29Ok.l0, w64_succ hlt hl, okFromB]
    rw [List.getElem?_eq_getElem hlt]
    refine Ev.pos (by omega) (Ev.pos (by omega) (Ev.bind (l29One_ev l i hlt (hf _ (List.getElem_mem hlt))) ?_))
    cases h : blkOk l[i] with
    | false => exact Ev.neg (by decide) (Ev.to (Ev.now _) (by simp [h]))
    | true =>
      refine Ev.pos rfl ?_
      cases i with
      | zero => exact Ev.neg (by omega) (Ev.to (ih 1 (by omega)) (by simp [h]))
      | succ j =>
        have hw : wrap64 (((j + 1 : Nat) : Int) - 1) = (j : Int) := by rw [w64 (by omega) (by omega)]; omega
        have hj : j < l.length := by omega
        simp only [hw, l29Before_eq l l j (j + 1) hj hlt, Option.bind_some, List.getElem?_eq_getElem hj]
        refine Ev.pos (by omega) (Ev.pos (by omega) (Ev.pos (by omega) ?_))
        cases h2 : blkLt l[j] l[j + 1] with
        | true => exact Ev.pos rfl (Ev.to (ih (j + 1 + 1) (by omega)) (by simp [h]))
        | false => exact Ev.neg (by decide) (Ev.to (Ev.now _) (by simp))
theorem l29Ok_ev (l : List Blk) (hl : l.length ≤ 9223372036854775807) (hf : ∀ b ∈ l, BFit b) : Ev (fun k => spec_l29Ok.f k l) (blksOk l) := by
  simp only [spec_l29Ok.f]
  exact l29Ok_l0 l hl hf l.length 0 (by omega)
theorem ValidBlocks_l0 (l : List Blk) (hl : l.length ≤ 9223372036854775807) (hf : ∀ b ∈ l, BFit b) : ∀ (d i : Nat), i + d = l.length → Ev (fun k => impl_ValidBlocks.l0 k l l (l.length : Int) i) (okFromB l d i) := by
  intro d
  induction d with
  | zero =>
    intro i hi
    refine Ev.succ ?_
    simp only [impl_ValidBlocks.l0, okFromB]
    exact Ev.neg (by omega) (Ev.now _)
  | succ d ih =>
    intro i hi
    have hlt : i < l.length := by omega
    refine Ev.succ ?_
    simp only [impl_ValidBlocks.l0, w64_succ hlt hl, okFromB, rdB_at l i hlt]
    rw [List.getElem?_eq_getElem hlt]
    refine Ev.pos (by omega) (Ev.pos (by omega) (Ev.pos (by omega) (Ev.bind (ValidBlock_ev l[i] (hf _ (List.getElem_mem hlt))) ?_)))
    cases h : blkOk l[i] with
    | false => exact Ev.neg (by decide) (Ev.to (Ev.now _) (by simp [h]))
    | true =>
      refine Ev.pos rfl ?_
      cases i with
      | zero => exact Ev.neg (by omega) (Ev.to (ih 1 (by omega)) (by simp [h]))
      | succ j =>
        have hw : wrap64 (((j + 1 : Nat) : Int) - 1) = (j : Int) := by rw [w64 (by omega) (by omega)]; omega
        have hj : j < l.length := by omega
        simp only [hw, rdB_at l j hj, List.getElem?_eq_getElem hj]
        refine Ev.pos (by omega) (Ev.pos (by omega) (Ev.pos (by omega) (Ev.bind (compareBlocks_ev _ _) ?_)))
        cases h2 : blkLt l[j] l[j + 1] with
        | true => exact Ev.neg (by have := (cmpB_neg _ _).2 h2; omega) (Ev.to (ih (j + 1 + 1) (by omega)) (by simp [h]))
        | false => exact Ev.pos (Int.not_lt.1 fun h => by rw [(cmpB_neg _ _).1 h] at h2; exact absurd h2 (by decide)) (Ev.to (Ev.now _) (by simp))
theorem ValidBlocks_ev (l : List Blk) (hl : l.length ≤ 9223372036854775807) (hf : ∀ b ∈ l, BFit b) : Ev (fun k => impl_ValidBlocks.f k l) (blksOk l) := by
  simp only [impl_ValidBlocks.f, blksOk]
  by_cases h : (l.length : Int) > 32
  · exact Ev.pos h (Ev.to (Ev.now _) (by rw [decide_eq_false (by omega : ¬ l.length ≤ 32)]; simp))
  · exact Ev.neg h (Ev.to (ValidBlocks_l0 l hl hf l.length 0 (by omega)) (by rw [decide_eq_true (by omega : l.length ≤ 32)]; simp))
theorem specValidBlocks_ev (l : List Blk) (hl : l.length ≤ 9223372036854775807) (hf : ∀ b ∈ l, BFit b) : Ev (fun k => (spec_l29Ok.f k l).bind fun t => some t) (blksOk l) := Ev.bind (l29Ok_ev l hl hf) (Ev.now _)
end Go.Proofs.Ytpdggpfobbkdnaa.A
namespace Go.Proofs.Ytpdggpfobbkdnaa.A
open Go.RowKit Go.Proofs.YtpdggpfobbkdnaaW.PrintWords Go.Proofs.YtpdggpfobbkdnaaW.PrintLast
abbrev LBk := S66
def convB (b : LBk) : Blk := ⟨b.f0, b.f1, b.f2⟩
/-- The texts of a block are small. -/
def LFit (n : Nat) (b : LBk) : Prop := b.f0.size ≤ n ∧ b.f1.size ≤ n ∧ b.f2.size ≤ n
theorem rdL_at (l : List LBk) (i : Nat) (h : i < l.length) : rd_T66 l (i : Int) = l[i] := by
  simp [rd_T66, List.getD_eq_getElem?_getD, List.getElem?_eq_getElem h]
theorem szBlock_eq (b : LBk) (left : Int) (h : LFit 9223372036854775807 b) (h0 : 0 ≤ left) (h1 : left ≤ 1048576) :
    ∃ t, laws_szBlock.f b.f0 b.f1 b.f2 left = some t ∧ t ≤ 1048576 ∧ (0 ≤ t → LFit 1048576 b) ∧ (t < 0 → t = -1) := by
  obtain ⟨a, c, d⟩ := h
  unfold laws_szBlock.f
  rw [w64 (by omega) (by omega)]
  by_cases e1 : left - (b.f0.size : Int) < 0
  · exact ⟨-1, by rw [if_pos e1], by omega, fun h => by omega, fun _ => rfl⟩
  · rw [if_neg e1, w64 (by omega) (by omega)]
    by_cases e2 : left - (b.f0.size : Int) - (b.f1.size : Int) < 0
    · exact ⟨-1, by rw [if_pos e2], by omega, fun h => by omega, fun _ => rfl⟩
    · rw [if_neg e2, w64 (by omega) (by omega)]
      by_cases e3 : left - (b.f0.size : Int) - (b.f1.size : Int) - (b.f2.size : Int) < 0
      · exact ⟨-1, by rw [if_pos e3], by omega, fun h => by omega, fun _ => rfl⟩
      · exact ⟨_, by rw [if_neg e3], by omega, fun _ => ⟨by omega, by omega, by omega⟩, fun h => by omega⟩
theorem szBlockS_l0 (l : List LBk) (hl : l.length ≤ 9223372036854775807) (hs : ∀ z ∈ l, LFit 9223372036854775807 z) : ∀ (d i : Nat) (left : Int), i + d = l.length → 0 ≤ left → left ≤ 1048576 →
    ∃ t, Ev (fun k => laws_szBlockS.l0 k l left i) t ∧ t ≤ 1048576 ∧ (0 ≤ t → ∀ j (h : j < l.length), i ≤ j → LFit 1048576 l[j]) := by
  intro d
  induction d with
  | zero =>
    intro i left hi h0 h1
    refine ⟨left, Ev.succ ?_, h1, fun _ j h hj => absurd h (by omega)⟩
    simp only [laws_szBlockS.l0]
    exact Ev.neg (by omega) (Ev.now _)
  | succ d ih =>
    intro i left hi h0 h1
    have hlt : i < l.length := by omega
    obtain ⟨t, ht, ht1, htf, htn⟩ := szBlock_eq l[i] left (hs _ (List.getElem_mem hlt)) h0 h1
    by_cases hn : t < 0
    · refine ⟨-1, Ev.succ ?_, by omega, fun h => absurd h (by omega)⟩
      simp only [laws_szBlockS.l0, rdL_at l i hlt, ht, Option.bind_some]
      exact Ev.pos (by omega) (Ev.pos (by omega) (Ev.pos hn (Ev.now _)))
    · obtain ⟨t', ht', ht1', hall⟩ := ih (i + 1) t (by omega) (by omega) ht1
      refine ⟨t', Ev.succ ?_, ht1', fun h j hj hij => ?_⟩
      · simp only [laws_szBlockS.l0, rdL_at l i hlt, ht, Option.bind_some, w64_succ hlt hl]
        exact Ev.pos (by omega) (Ev.pos (by omega) (Ev.neg hn ht'))
      · by_cases e : i = j
        · subst e
          exact htf (by omega)
        · exact hall h j hj (by omega)
theorem szBlockS_from (l : List LBk) (left : Int) (h0 : 0 ≤ left) (h1 : left ≤ 1048576) (hl : l.length ≤ 9223372036854775807) (hs : ∀ z ∈ l, LFit 9223372036854775807 z) :
    ∃ t, Ev (fun k => laws_szBlockS.f k l left) t ∧ t ≤ 1048576 ∧ (0 ≤ t → l.length ≤ 1048576 ∧ ∀ z ∈ l, LFit 1048576 z) := by
  have hw : wrap64 (left - (l.length : Int)) = left - (l.length : Int) := w64 (by omega) (by omega)
  by_cases hn : left - (l.length : Int) < 0
  · refine ⟨-1, ?_, by omega, fun h => absurd h (by omega)⟩
    simp only [laws_szBlockS.f, hw]
    exact Ev.pos hn (Ev.now _)
  · obtain ⟨t, ht, ht1, hall⟩ := szBlockS_l0 l hl hs l.length 0 (left - (l.length : Int)) (by omega) (by omega) (by omega)
    refine ⟨t, ?_, ht1, fun h => ⟨by omega, fun z hz => ?_⟩⟩
    · simp only [laws_szBlockS.f, hw]
      exact Ev.neg hn ht
    · obtain ⟨j, hj, rfl⟩ := List.getElem_of_mem hz
      exact hall h j hj (by omega)
theorem szBlockS_ev (l : List LBk) (hl : l.length ≤ maxLen) (hs : ∀ z ∈ l, LFit maxLen z) :
    ∃ t, Ev (fun k => laws_szBlockS.f k l 1048576) t ∧ t ≤ 1048576 ∧ (0 ≤ t → l.length ≤ 1048576 ∧ ∀ z ∈ l, LFit 1048576 z) := szBlockS_from l 1048576 (by omega) (by omega) hl hs
theorem toBlockS_l0 (l : List LBk) (hl : l.length ≤ 9223372036854775807) : ∀ (d i : Nat) (x : List Blk), i + d = l.length → x.length = l.length → (∀ j, j < i → x[j]? = (l.map convB)[j]?) → Ev (fun k => laws_toBlockS.l0 k l x i) (l.map convB) := by
  intro d
  induction d with
  | zero =>
    intro i x hi hx hp
    refine Ev.succ ?_
    simp only [laws_toBlockS.l0]
    refine Ev.neg (by omega) (Ev.to (Ev.now x) ?_)
    refine List.ext_getElem? fun j => ?_
    by_cases hj : j < i
    · exact hp j hj
    · rw [List.getElem?_eq_none (by omega), List.getElem?_eq_none (by rw [List.length_map]; omega)]
  | succ d ih =>
    intro i x hi hx hp
    have hlt : i < l.length := by omega
    refine Ev.succ ?_
    simp only [laws_toBlockS.l0, laws_toBlock.f, Option.bind_some, rdL_at l i hlt, w64_succ hlt hl]
    refine Ev.pos (by omega) (Ev.pos (by omega) (Ev.pos (by omega) (ih (i + 1) _ (by omega) (by simpa using hx) fun j hj => ?_)))
    rw [Int.toNat_natCast]
    by_cases e : i = j
    · subst e
      rw [List.getElem?_set_self (by omega), List.getElem?_map, List.getElem?_eq_getElem hlt]
      rfl
    · rw [List.getElem?_set_ne e]
      exact hp j (by omega)
theorem toBlockS_ev (l : List LBk) (hl : l.length ≤ 1048576) : Ev (fun k => laws_toBlockS.f k l) (l.map convB) := by
  simp only [laws_toBlockS.f]
  exact Ev.pos (by omega) (Ev.pos (by omega) (toBlockS_l0 l (by omega) l.length 0 _ (by omega) (by simp) (fun j hj => absurd hj (by omega))))
theorem eqBlock_refl (a b c : ByteArray) : laws_eqBlock.f a b c a b c = some true := by simp [laws_eqBlock.f]
theorem eqBlockS_l0 (l : List Blk) (hl : l.length ≤ 9223372036854775807) : ∀ (d i : Nat), i + d = l.length → Ev (fun k => laws_eqBlockS.l0 k l l i) true := by
  intro d
  induction d with
  | zero =>
    intro i hi
    refine Ev.succ ?_
    simp only [laws_eqBlockS.l0]
    exact Ev.neg (by omega) (Ev.now _)
  | succ d ih =>
    intro i hi
    have hlt : i < l.length := by omega
    refine Ev.succ ?_
    simp only [laws_eqBlockS.l0, w64_succ hlt hl, eqBlock_refl, Option.bind_some]
    exact Ev.pos (by omega) (Ev.pos (by omega) (Ev.pos (by omega) (Ev.pos trivial (ih (i + 1) (by omega)))))
theorem eqBlockS_ev (l : List Blk) (hl : l.length ≤ 9223372036854775807) : Ev (fun k => laws_eqBlockS.f k l l) true := by
  simp only [laws_eqBlockS.f]
  exact Ev.pos trivial (eqBlockS_l0 l hl l.length 0 (by omega))
theorem fit_map (l : List LBk) (n : Nat) (hn : n ≤ 9223372036854775807) (h : ∀ z ∈ l, LFit n z) : ∀ b ∈ l.map convB, BFit b := by
  intro b hb
  obtain ⟨z, hz, rfl⟩ := List.mem_map.1 hb
  obtain ⟨a, c, d⟩ := h z hz
  exact ⟨Nat.le_trans a hn, Nat.le_trans c hn, Nat.le_trans d hn⟩
end Go.Proofs.Ytpdggpfobbkdnaa.A
namespace Go.Proofs.Ytpdggpfobbkdnaa.A
open Go.RowKit Go.Proofs.YtpdggpfobbkdnaaW.PrintWords Go.Proofs.YtpdggpfobbkdnaaW.PrintLast Go.Proofs.YtpdggpfobbkdnaaW.PrintMore
attribute [local go_sem] max2_int min2_int max_two min_two max_three min_three max_four min_four   -- for this text's walks alone
set_option linter.unusedVariables false
set_option linter.unusedSimpArgs false

/-! ### laws_szStringS: function 14 -/
def laws_szStringS.l0 : Nat → List ByteArray → Int → Int → Option (Int)
  | 0, _, _, _ => none
  | k + 1, x0, x1, x5 => if x5 < (x0.length : Int) then (if 0 ≤ x5 then (if (wrap64 (x1 - ((rdOf ByteArray.empty x0 x5).size : Int))) < 0 then (some (-1)) else (laws_szStringS.l0 k x0 (wrap64 (x1 - ((rdOf ByteArray.empty x0 x5).size : Int))) (wrap64 (x5 + 1)))) else (none)) else (some x1)
def laws_szStringS.f (k : Nat) (l0 : List ByteArray) (a1 : Int) : Option (Int) := if (wrap64 (a1 - (l0.length : Int))) < 0 then (some (-1)) else (laws_szStringS.l0 k l0 (wrap64 (a1 - (l0.length : Int))) 0)
theorem laws_szStringS.mono_l : ∀ k, (∀ y0 y1 y2, LeO (laws_szStringS.l0 k y0 y1 y2) (laws_szStringS.l0 (k + 1) y0 y1 y2))
  | 0 => fun _ _ _ r h => by simp [laws_szStringS.l0] at h
  | k + 1 => by
    have ih0 := laws_szStringS.mono_l k
    · intro y0 y1 y2
      unfold laws_szStringS.l0
      repeat' first
      | (with_reducible exact ih0 _ _ _)
      | (with_reducible exact LeO.refl _)
      | (with_reducible exact LeO.none _)
      | (with_reducible refine LeO.ite ?_ ?_)
      | (with_reducible refine LeO.bind ?_ (fun _ => ?_))
      | exact ih0 _ _ _
      | exact LeO.none _
      | refine LeO.ite ?_ ?_
      | refine LeO.bind ?_ (fun _ => ?_)
theorem laws_szStringS.mono : ∀ a0 a1 k, LeO (laws_szStringS.f k a0 a1) (laws_szStringS.f (k + 1) a0 a1) := by
  intro a0 a1 k
  have ih0 := laws_szStringS.mono_l k
  unfold laws_szStringS.f
  repeat' first
      | (with_reducible exact ih0 _ _ _)
      | (with_reducible exact LeO.refl _)
      | (with_reducible exact LeO.none _)
      | (with_reducible refine LeO.ite ?_ ?_)
      | (with_reducible refine LeO.bind ?_ (fun _ => ?_))
      | exact ih0 _ _ _
      | exact LeO.none _
      | refine LeO.ite ?_ ?_
      | refine LeO.bind ?_ (fun _ => ?_)
set_option maxHeartbeats 8000000 in
set_option maxRecDepth 100000 in
theorem laws_szStringS.calls (k : Nat) (A0 : Option Addr) (c0 : Nat) (l0 : List ByteArray) (a1 : Int) (r : Int) (w : World) (hr0 : Kd.C Kd.string w A0 l0.length l0) (hc0 : l0.length ≤ c0) (h : laws_szStringS.f k l0 a1 = some r) :
    Calls Try.prog 14 #[.slice A0 l0.length c0, .int .i64 a1] w fun e w' => e = .returned (.int .i64 r) ∧ Drawn0 w w' := by
  have HR0 := Aside0.mk hr0
  have HC0 := Aside0.mk hc0
  clear hr0 hc0
  have H : (if (wrap64 (a1 - (l0.length : Int))) < 0 then (some (-1)) else (laws_szStringS.l0 k l0 (wrap64 (a1 - (l0.length : Int))) 0)) = some r := h
  clear h
  by_cases c3 : (wrap64 (a1 - (l0.length : Int))) < 0
  · rw [if_pos c3] at H
    have c3b0 : decide ((wrap64 (a1 - (l0.length : Int))) < 0) = true := decide_eq_true c3
    clear c3
    obtain rfl := Option.some.inj H
    go_enter Try.func14, Try.ntmps14
    go_wp2
    go_ret
    exact ⟨by first | rfl | (simp; done) | (simp [*]; done), by repeat (first | exact Drawn0.refl _ | apply Drawn0.step)⟩
  · rw [if_neg c3] at H
    have c3b0 : decide ((wrap64 (a1 - (l0.length : Int))) < 0) = false := decide_eq_false c3
    clear c3
    have H' := Aside0.mk H
    clear H
    go_enter Try.func14, Try.ntmps14
    go_wp2
    go_loopg [1, 5] k (fun kq v1 v5 w' => ∃ (x1_1 : Int) (x5_1 : Int), v1 = .int .i64 x1_1 ∧ v5 = .int .i64 x5_1 ∧ Aside0 (laws_szStringS.l0 kq l0 x1_1 x5_1 = some r) ∧ Aside0 (kq ≤ k) ∧ Drawn0 w w')
    case atStart => exact ⟨(wrap64 (a1 - (l0.length : Int))), (0), (by first | rfl | (simp; done) | (simp [*]; done)), (by first | rfl | (simp; done) | (simp [*]; done)), H', ⟨Nat.le_refl _⟩, by repeat (first | exact Drawn0.refl _ | apply Drawn0.step)⟩
    case round =>
      clear H'
      try clear c1
      try clear p2
      try clear c3
      try clear c3b0
      obtain ⟨x1_1, x5_1, rfl, rfl, HA, HK1, ⟨m1, rfl⟩⟩ := hrel
      cases gk with
      | zero => exact absurd HA.out (by simp [laws_szStringS.l0])
      | succ k1 =>
        have H := HA.out
        clear HA
        simp only [laws_szStringS.l0] at H
        by_cases c4 : x5_1 < (l0.length : Int)
        · rw [if_pos c4] at H
          have c4b0 : decide (x5_1 < (l0.length : Int)) = true := decide_eq_true c4
          clear c4
          by_cases c5 : 0 ≤ x5_1
          · rw [if_pos c5] at H
            have c5b0 : decide (0 ≤ x5_1) = true := decide_eq_true c5
            clear c5
            by_cases c6 : (wrap64 (x1_1 - ((rdOf ByteArray.empty l0 x5_1).size : Int))) < 0
            · rw [if_pos c6] at H
              have c6b0 : decide ((wrap64 (x1_1 - ((rdOf ByteArray.empty l0 x5_1).size : Int))) < 0) = true := decide_eq_true c6
              clear c6
              obtain rfl := Option.some.inj H
              have p101 : 0 ≤ (x5_1 : Int) := of_decide_eq_true (by first | (with_reducible assumption) | assumption)
              have q101 : x5_1 < (l0.length : Int) := of_decide_eq_true (by first | (with_reducible assumption) | assumption)
              obtain ⟨ad101, e101, hx101_0⟩ := Kd.at_string HR0.out x5_1 p101 q101
              cases e101
              replace p101 := eq_true p101
              replace q101 := eq_true q101
              go_wp2
              go_ret
              exact ⟨by first | rfl | (simp; done) | (simp [*]; done), by repeat (first | exact Drawn0.refl _ | apply Drawn0.step)⟩
            · rw [if_neg c6] at H
              have c6b0 : decide ((wrap64 (x1_1 - ((rdOf ByteArray.empty l0 x5_1).size : Int))) < 0) = false := decide_eq_false c6
              clear c6
              have H' := Aside0.mk H
              clear H
              have p101 : 0 ≤ (x5_1 : Int) := of_decide_eq_true (by first | (with_reducible assumption) | assumption)
              have q101 : x5_1 < (l0.length : Int) := of_decide_eq_true (by first | (with_reducible assumption) | assumption)
              obtain ⟨ad101, e101, hx101_0⟩ := Kd.at_string HR0.out x5_1 p101 q101
              cases e101
              replace p101 := eq_true p101
              replace q101 := eq_true q101
              go_wp2
              go_roundg k1
              case measure => have := HK1.out; omega
              case rel => exact ⟨(wrap64 (x1_1 - ((rdOf ByteArray.empty l0 x5_1).size : Int))), (wrap64 (x5_1 + 1)), (by first | rfl | (simp; done) | (simp [*]; done)), (by first | rfl | (simp; done) | (simp [*]; done)), H', ⟨by have := HK1.out; omega⟩, by repeat (first | exact Drawn0.refl _ | apply Drawn0.step)⟩
          · rw [if_neg c5] at H
            exact absurd H (by simp)
        · rw [if_neg c4] at H
          have c4b0 : decide (x5_1 < (l0.length : Int)) = false := decide_eq_false c4
          clear c4
          obtain rfl := Option.some.inj H
          go_wp2
          go_ret
          exact ⟨by first | rfl | (simp; done) | (simp [*]; done), by repeat (first | exact Drawn0.refl _ | apply Drawn0.step)⟩

end Go.Proofs.Ytpdggpfobbkdnaa.A
namespace Go.Proofs.Ytpdggpfobbkdnaa.A
open Go.RowKit Go.Proofs.YtpdggpfobbkdnaaW.PrintWords Go.Proofs.YtpdggpfobbkdnaaW.PrintLast Go.Proofs.YtpdggpfobbkdnaaW.PrintMore
attribute [local go_sem] max2_int min2_int max_two min_two max_three min_three max_four min_four   -- for this text's walks alone
set_option linter.unusedVariables false
set_option linter.unusedSimpArgs false

/-! ### laws_toStringS: function 16 -/
def laws_toStringS.l0 : Nat → List ByteArray → List ByteArray → Int → Option (List ByteArray)
  | 0, _, _, _ => none
  | k + 1, x0, x3, x4 => if x4 < (x0.length : Int) then (if 0 ≤ x4 then (if x4 < (x3.length : Int) then (laws_toStringS.l0 k x0 (x3.set (x4 : Int).toNat (rdOf ByteArray.empty x0 x4)) (wrap64 (x4 + 1))) else (none)) else (none)) else (some x3)
def laws_toStringS.f (k : Nat) (l0 : List ByteArray) : Option (List ByteArray) := if 0 ≤ (l0.length : Int) then (if ((l0.length : Int) : Int).toNat ≤ 17592186044416 then (laws_toStringS.l0 k l0 (List.replicate ((l0.length : Int) : Int).toNat (⟨#[]⟩ : ByteArray)) 0) else (none)) else (none)
theorem laws_toStringS.mono_l : ∀ k, (∀ y0 y1 y2, LeO (laws_toStringS.l0 k y0 y1 y2) (laws_toStringS.l0 (k + 1) y0 y1 y2))
  | 0 => fun _ _ _ r h => by simp [laws_toStringS.l0] at h
  | k + 1 => by
    have ih0 := laws_toStringS.mono_l k
    · intro y0 y1 y2
      unfold laws_toStringS.l0
      repeat' first
      | (with_reducible exact ih0 _ _ _)
      | (with_reducible exact LeO.refl _)
      | (with_reducible exact LeO.none _)
      | (with_reducible refine LeO.ite ?_ ?_)
      | (with_reducible refine LeO.bind ?_ (fun _ => ?_))
      | exact ih0 _ _ _
      | exact LeO.none _
      | refine LeO.ite ?_ ?_
      | refine LeO.bind ?_ (fun _ => ?_)
theorem laws_toStringS.mono : ∀ a0 k, LeO (laws_toStringS.f k a0) (laws_toStringS.f (k + 1) a0) := by
  intro a0 k
  have ih0 := laws_toStringS.mono_l k
  unfold laws_toStringS.f
  repeat' first
      | (with_reducible exact ih0 _ _ _)
      | (with_reducible exact LeO.refl _)
      | (with_reducible exact LeO.none _)
      | (with_reducible refine LeO.ite ?_ ?_)
      | (with_reducible refine LeO.bind ?_ (fun _ => ?_))
      | exact ih0 _ _ _
      | exact LeO.none _
      | refine LeO.ite ?_ ?_
      | refine LeO.bind ?_ (fun _ => ?_)
set_option maxHeartbeats 8000000 in
set_option maxRecDepth 100000 in
theorem laws_toStringS.calls (k : Nat) (A0 : Option Addr) (c0 : Nat) (l0 : List ByteArray) (r : List ByteArray) (w : World) (hr0 : Kd.C Kd.string w A0 l0.length l0) (hc0 : l0.length ≤ c0) (h : laws_toStringS.f k l0 = some r) :
    Calls Try.prog 16 #[.slice A0 l0.length c0] w fun e w' => ∃ v0_ : Value, e = .returned (v0_) ∧ Kd.R Kd.string 9 w' w.heap.size (fun _ => True) v0_ r ∧ Below w.heap.size w w' := by
  have HR0 := Aside0.mk hr0
  have HC0 := Aside0.mk hc0
  clear hr0 hc0
  have HB := Aside0.mk (Below.refl w.heap.size w)
  have H : (if 0 ≤ (l0.length : Int) then (if ((l0.length : Int) : Int).toNat ≤ 17592186044416 then (laws_toStringS.l0 k l0 (List.replicate ((l0.length : Int) : Int).toNat (⟨#[]⟩ : ByteArray)) 0) else (none)) else (none)) = some r := h
  clear h
  by_cases c2 : 0 ≤ (l0.length : Int)
  · rw [if_pos c2] at H
    have c2b0 := eq_true c2
    have c2b1 : decide (0 ≤ (l0.length : Int)) = true := decide_eq_true c2
    clear c2
    by_cases c3 : ((l0.length : Int) : Int).toNat ≤ 17592186044416
    · rw [if_pos c3] at H
      have c3b0 := eq_true c3
      have c3b1 : decide (((l0.length : Int) : Int).toNat ≤ 17592186044416) = true := decide_eq_true c3
      clear c3
      obtain ⟨y101, hy101⟩ : ∃ y_ : List ByteArray, y_ = (List.replicate ((l0.length : Int) : Int).toNat (⟨#[]⟩ : ByteArray)) := ⟨_, rfl⟩
      replace H : (laws_toStringS.l0 k l0 y101 0) = some r := by first | (rw [hy101]; with_reducible exact H) | (have H2_ := (Option.bind_some _ _).symm.trans H; rw [hy101]; with_reducible exact H2_) | (have H2_ := (Option.bind_some _ _).symm.trans H; with_reducible exact H2_) | with_reducible exact H | (rw [hy101]; exact H) | exact H
      have Ny101 := Aside0.mk hy101
      clear hy101
      have H' := Aside0.mk H
      clear H
      go_enter Try.func16, Try.ntmps16
      go_wp2_with (first | ((with_reducible refine gate_dst (N := 7) rfl ?_); refine Kd.R_make Kd.string _ 9 rfl (N := 7) rfl 22 _ _ rfl (l0.length : Int) rfl rfl Try.underlying22 (.string ⟨#[]⟩) 16 info9 rfl (by decide) (by omega) (⟨#[]⟩ : ByteArray) (ok := fun _ => True) (okp := fun _ => True) rfl (fun _ hk => hk) trivial (of_decide_eq_true (by first | (with_reducible assumption) | assumption)) (Nat.le_trans (Nat.mul_le_mul_right _ (of_decide_eq_true (by first | (with_reducible assumption) | assumption) : (l0.length : Int).toNat ≤ 17592186044416)) (by omega)) (Below.refl _ _) (Nat.le_refl _) ?_; intro v102 w4 ho5 hb hg_ hnew_; clear hg_ hnew_; (first | rw [← Ny101.out] at ho5 | (simp only [Int.reduceToNat] at ho5; rw [← Ny101.out] at ho5)); have n0_ := Aside0.mk (Kd.R_lower ho5 (below_size (by repeat (first | (with_reducible first | exact HB.out | apply below_alloc | apply pw_below_drewN | apply below_drew1) | exact HB.out)))); have n1_ := Aside0.mk (below_step (by repeat (first | (with_reducible first | exact HB.out | apply below_alloc | apply pw_below_drewN | apply below_drew1) | exact HB.out)) hb); clear HB; have HO103 := n0_; have HB := n1_; clear n0_ n1_; clear hb ho5))
      go_loopg [4] k (fun kq v4 w' => ∃ (x3_1 : List ByteArray) (x4_1 : Int), v4 = .int .i64 x4_1 ∧ Aside0 (laws_toStringS.l0 kq l0 x3_1 x4_1 = some r) ∧ Aside0 (kq ≤ k) ∧ Aside0 (Kd.R Kd.string 9 w' w.heap.size (fun _ => True) v102 x3_1) ∧ Aside0 (Below w.heap.size w w'))
      case atStart => exact ⟨(y101), (0), (by first | rfl | (simp; done) | (simp [*]; done)), H', ⟨Nat.le_refl _⟩, ⟨by (with_reducible repeat (first | apply Kd.R_alloc | apply Kd.R_drewN | apply Kd.R_drew)); exact HO103.out⟩, ⟨by repeat (first | (with_reducible first | exact HB.out | apply below_alloc | apply pw_below_drewN | apply below_drew1) | exact HB.out)⟩⟩
      case round =>
        clear H'
        try clear c1
        try clear c2
        try clear c2b0
        try clear c2b1
        try clear p2
        try clear c3
        try clear c3b0
        try clear c3b1
        obtain ⟨x3_1, x4_1, rfl, HA, HK1, HO_3, HB⟩ := hrel
        cases gk with
        | zero => exact absurd HA.out (by simp [laws_toStringS.l0])
        | succ k1 =>
          have H := HA.out
          clear HA
          simp only [laws_toStringS.l0] at H
          by_cases c6 : x4_1 < (l0.length : Int)
          · rw [if_pos c6] at H
            have c6b0 : decide (x4_1 < (l0.length : Int)) = true := decide_eq_true c6
            clear c6
            by_cases c7 : 0 ≤ x4_1
            · rw [if_pos c7] at H
              have c7b0 : decide (0 ≤ x4_1) = true := decide_eq_true c7
              clear c7
              by_cases c8 : x4_1 < (x3_1.length : Int)
              · rw [if_pos c8] at H
                have c8b0 : decide (x4_1 < (x3_1.length : Int)) = true := decide_eq_true c8
                clear c8
                obtain ⟨y105, hy105⟩ : ∃ y_ : List ByteArray, y_ = (x3_1.set (x4_1 : Int).toNat (rdOf ByteArray.empty l0 x4_1)) := ⟨_, rfl⟩
                replace H : (laws_toStringS.l0 k1 l0 y105 (wrap64 (x4_1 + 1))) = some r := by first | (rw [hy105]; with_reducible exact H) | (have H2_ := (Option.bind_some _ _).symm.trans H; rw [hy105]; with_reducible exact H2_) | (have H2_ := (Option.bind_some _ _).symm.trans H; with_reducible exact H2_) | with_reducible exact H | (rw [hy105]; exact H) | exact H
                have Ny105 := Aside0.mk hy105
                clear hy105
                have H' := Aside0.mk H
                clear H
                have p104 : 0 ≤ (x4_1 : Int) := of_decide_eq_true (by first | (with_reducible assumption) | assumption)
                have q104 : x4_1 < (l0.length : Int) := of_decide_eq_true (by first | (with_reducible assumption) | assumption)
                obtain ⟨ad104, e104, hx104_0⟩ := Kd.at_string HR0.out x4_1 p104 q104
                cases e104
                replace hx104_0 := (HB.out.cell (World.block_lt_of_cell? w _ hx104_0)).trans hx104_0
                replace p104 := eq_true p104
                replace q104 := eq_true q104
                have p9 : 0 ≤ (x4_1 : Int) := of_decide_eq_true (by first | (with_reducible assumption) | assumption)
                have q9 : (x4_1 : Int) < ((x3_1.length : Int) : Int) := of_decide_eq_true (by first | (with_reducible assumption) | assumption)
                obtain ⟨go9, co9, eo9, gb9, gl9, cl9, HG9⟩ := Kd.R_form HO_3.out (by omega)
                (first | cases eo9 | (injection eo9 with ea_ en_ ec_; (first | subst ea_ | (injection ea_ with ea_; subst ea_)); subst ec_; clear en_))
                have GB9 := Aside0.mk gb9
                have GG9 := Aside0.mk HG9
                clear gb9 gl9 HG9
                obtain ⟨hx9_0, hf9_0⟩ := Kd.R_celln (⟨#[]⟩ : ByteArray) HO_3.out (x4_1 : Int) p9 q9
                replace p9 := eq_true p9
                replace q9 := eq_true q9
                have HP10 := Kd.R_putg HO_3.out (x4_1 : Int) (rdOf ByteArray.empty l0 x4_1)
                go_wp2_with (first | ((with_reducible refine gate_store (t := 9) (p := 20) rfl ?_); refine store_event (t := 9) (p := 20) (v := ?vo_w11) (w1 := (wr.setCell ⟨go9, (x4_1 : Int).toNat, none⟩ (.string (rdOf ByteArray.empty l0 x4_1)))) ?hg ?ho ?hn ?hr ?_; (case ho => rfl); (case hg => rfl); (case hn => rfl); (case hr => first | (go_simp; done) | (go_simp; rfl)); intro w11 hw; have hg : wr.grownBy w11 (some go9) := (by rw [hw]; exact HP10.2); have hp_ : Kd.R Kd.string 9 w11 w.heap.size (fun _ => True) (.slice (some ⟨go9, 0, none⟩) x3_1.length co9) y105 := (by rw [hw, Ny105.out]; exact HP10.1); clear HP10; have n0_ := Aside0.mk (hp_); have n1_ := Aside0.mk ((by rw [hw]; exact below_set (HB.out) GB9.out : Below w.heap.size w w11)); clear HO_3; clear HB; have HO_3 := n0_; have HB := n1_; clear n0_ n1_; clear hg hw hp_))
                go_roundg k1
                case measure => have := HK1.out; omega
                case rel => exact ⟨(y105), (wrap64 (x4_1 + 1)), (by first | rfl | (simp; done) | (simp [*]; done)), H', ⟨by have := HK1.out; omega⟩, ⟨by (with_reducible repeat (first | apply Kd.R_alloc | apply Kd.R_drewN | apply Kd.R_drew)); exact HO_3.out⟩, ⟨by repeat (first | (with_reducible first | exact HB.out | apply below_alloc | apply pw_below_drewN | apply below_drew1) | exact HB.out)⟩⟩
              · rw [if_neg c8] at H
                exact absurd H (by simp)
            · rw [if_neg c7] at H
              exact absurd H (by simp)
          · rw [if_neg c6] at H
            have c6b0 : decide (x4_1 < (l0.length : Int)) = false := decide_eq_false c6
            clear c6
            obtain rfl := Option.some.inj H
            go_wp2
            go_ret
            exact ⟨_, by first | rfl | (simp [errW_none, errW_some] <;> rfl) | (simp [*, errW_none, errW_some] <;> rfl), by (with_reducible repeat (first | apply Kd.R_alloc | apply Kd.R_drewN | apply Kd.R_drew)); exact HO_3.out, by repeat (first | (with_reducible first | exact HB.out | apply below_alloc | apply pw_below_drewN | apply below_drew1) | exact HB.out)⟩
    · rw [if_neg c3] at H
      exact absurd H (by simp)
  · rw [if_neg c2] at H
    exact absurd H (by simp)

end Go.Proofs.Ytpdggpfobbkdnaa.A
namespace Go.Proofs.Ytpdggpfobbkdnaa.A
open Go.RowKit Go.Proofs.YtpdggpfobbkdnaaW.PrintWords Go.Proofs.YtpdggpfobbkdnaaW.PrintLast
theorem szStringS_l0 (l : List ByteArray) (hl : l.length ≤ 9223372036854775807) (hs : ∀ z ∈ l, z.size ≤ 9223372036854775807) : ∀ (d i : Nat) (left : Int), i + d = l.length → 0 ≤ left → left ≤ 1048576 →
    ∃ t, Ev (fun k => laws_szStringS.l0 k l left i) t ∧ (0 ≤ t → ∀ j (h : j < l.length), i ≤ j → l[j].size ≤ 1048576) := by
  intro d
  induction d with
  | zero =>
    intro i left hi h0 h1
    refine ⟨left, Ev.succ ?_, fun _ j h hj => absurd h (by omega)⟩
    simp only [laws_szStringS.l0]
    exact Ev.neg (by omega) (Ev.now _)
  | succ d ih =>
    intro i left hi h0 h1
    have hlt : i < l.length := by omega
    have hz := hs l[i] (List.getElem_mem hlt)
    have hw : wrap64 (left - (l[i].size : Int)) = left - (l[i].size : Int) := w64 (by omega) (by omega)
    by_cases hn : left - (l[i].size : Int) < 0
    · refine ⟨-1, Ev.succ ?_, fun h => absurd h (by omega)⟩
      simp only [laws_szStringS.l0, rdOf_at _ l i hlt, hw]
      exact Ev.pos (by omega) (Ev.pos (by omega) (Ev.pos hn (Ev.now _)))
    · obtain ⟨t, ht, hall⟩ := ih (i + 1) (left - (l[i].size : Int)) (by omega) (by omega) (by omega)
      refine ⟨t, Ev.succ ?_, fun h j hj hij => ?_⟩
      · simp only [laws_szStringS.l0, rdOf_at _ l i hlt, hw, w64_succ hlt hl]
        exact Ev.pos (by omega) (Ev.pos (by omega) (Ev.neg hn ht))
      · by_cases e : i = j
        · subst e
          omega
        · exact hall h j hj (by omega)
theorem szStringS_ev (l : List ByteArray) (hl : l.length ≤ maxLen) (hs : ∀ z ∈ l, z.size ≤ maxLen) :
    ∃ t, Ev (fun k => laws_szStringS.f k l 1048576) t ∧ (0 ≤ t → l.length ≤ 1048576 ∧ ∀ z ∈ l, z.size ≤ 1048576) := by
  unfold maxLen at hl hs
  have hw : wrap64 (1048576 - (l.length : Int)) = 1048576 - (l.length : Int) := w64 (by omega) (by omega)
  by_cases hn : 1048576 - (l.length : Int) < 0
  · refine ⟨-1, ?_, fun h => absurd h (by omega)⟩
    simp only [laws_szStringS.f, hw]
    exact Ev.pos hn (Ev.now _)
  · obtain ⟨t, ht, hall⟩ := szStringS_l0 l hl hs l.length 0 (1048576 - (l.length : Int)) (by omega) (by omega) (by omega)
    refine ⟨t, ?_, fun h => ⟨by omega, fun z hz => ?_⟩⟩
    · simp only [laws_szStringS.f, hw]
      exact Ev.neg hn ht
    · obtain ⟨j, hj, rfl⟩ := List.getElem_of_mem hz
      exact hall h j hj (by omega)
theorem toStringS_l0 (l : List ByteArray) (hl : l.length ≤ 9223372036854775807) : ∀ (d i : Nat) (x : List ByteArray), i + d = l.length → x.length = l.length → (∀ j, j < i → x[j]? = l[j]?) → Ev (fun k => laws_toStringS.l0 k l x i) l := by
  intro d
  induction d with
  | zero =>
    intro i x hi hx hp
    refine Ev.succ ?_
    simp only [laws_toStringS.l0]
    refine Ev.neg (by omega) (Ev.to (Ev.now x) ?_)
    refine List.ext_getElem? fun j => ?_
    by_cases hj : j < i
    · exact hp j hj
    · rw [List.getElem?_eq_none (by omega), List.getElem?_eq_none (by omega)]
  | succ d ih =>
    intro i x hi hx hp
    have hlt : i < l.length := by omega
    refine Ev.succ ?_
    simp only [laws_toStringS.l0, rdOf_at _ l i hlt, w64_succ hlt hl]
    refine Ev.pos (by omega) (Ev.pos (by omega) (Ev.pos (by omega) (ih (i + 1) _ (by omega) (by simpa using hx) fun j hj => ?_)))
    rw [Int.toNat_natCast]
    by_cases e : i = j
    · subst e
      rw [List.getElem?_set_self (by omega), List.getElem?_eq_getElem hlt]
    · rw [List.getElem?_set_ne e]
      exact hp j (by omega)
theorem toStringS_ev (l : List ByteArray) (hl : l.length ≤ 1048576) : Ev (fun k => laws_toStringS.f k l) l := by
  simp only [laws_toStringS.f]
  exact Ev.pos (by omega) (Ev.pos (by omega) (toStringS_l0 l (by omega) l.length 0 _ (by omega) (by simp) (fun j hj => absurd hj (by omega))))
theorem eqStringS_l0 (l : List ByteArray) (hl : l.length ≤ 9223372036854775807) : ∀ (d i : Nat), i + d = l.length → Ev (fun k => laws_eqStringS.l0 k l l i) true := by
  intro d
  induction d with
  | zero =>
    intro i hi
    refine Ev.succ ?_
    simp only [laws_eqStringS.l0]
    exact Ev.neg (by omega) (Ev.now _)
  | succ d ih =>
    intro i hi
    have hlt : i < l.length := by omega
    refine Ev.succ ?_
    simp only [laws_eqStringS.l0, w64_succ hlt hl]
    exact Ev.pos (by omega) (Ev.pos (by omega) (Ev.pos (by omega) (Ev.pos trivial (ih (i + 1) (by omega)))))
theorem eqStringS_ev (l : List ByteArray) (hl : l.length ≤ 9223372036854775807) : Ev (fun k => laws_eqStringS.f k l l) true := by
  simp only [laws_eqStringS.f]
  exact Ev.pos trivial (eqStringS_l0 l hl l.length 0 (by omega))
theorem ba_size_append (a b : ByteArray) : (a ++ b).size = a.size + b.size := ByteArray.size_append
theorem strOfNums_one (n : Int) : (strOfNums [n]).size = 1 := by
  simp [strOfNums, ByteArray.size]
theorem markText_l0 : ∀ (d : Nat) (n : Int) (x : ByteArray), 0 ≤ n → n < 2 ^ d → n ≤ 4611686018427387904 → x.size + d ≤ 1000 → ∃ s, Ev (fun k => laws_markText.l0 k n x) s := by
  intro d
  induction d with
  | zero =>
    intro n x h0 h1 _ hx
    refine ⟨(⟨#[109]⟩ : ByteArray) ++ x, Ev.succ ?_⟩
    simp only [laws_markText.l0]
    exact Ev.neg (by omega) (Ev.pos (by omega) (Ev.now _))
  | succ d ih =>
    intro n x h0 h1 h2 hx
    by_cases hn : n > 0
    · have hd : Int.tdiv n 10 = n / 10 := Int.tdiv_eq_ediv_of_nonneg h0
      have hw : wrap64 (n / 10) = n / 10 := w64 (by omega) (by omega)
      have hp : (2 : Int) ^ (d + 1) = 2 * 2 ^ d := by rw [Int.pow_succ]; omega
      obtain ⟨s, hs⟩ := ih (n / 10) (strOfNums [(wrap64 (48 + (Int.tmod n 10))) % 256] ++ x) (by omega) (by omega) (by omega) (by rw [ba_size_append, strOfNums_one]; omega)
      refine ⟨s, Ev.succ ?_⟩
      simp only [laws_markText.l0, hd, hw, Option.bind_some]
      exact Ev.pos hn (Ev.pos (by rw [strOfNums_one]; omega) hs)
    · refine ⟨(⟨#[109]⟩ : ByteArray) ++ x, Ev.succ ?_⟩
      simp only [laws_markText.l0]
      exact Ev.neg hn (Ev.pos (by omega) (Ev.now _))
theorem markText_ev (n : Nat) (hn : n ≤ 4611686018427387904) : ∃ s, Ev (fun k => laws_markText.f k (n : Int)) s := by
  by_cases h : (n : Int) ≤ 0
  · exact ⟨_, by simp only [laws_markText.f]; exact Ev.pos h (Ev.now _)⟩
  · obtain ⟨s, hs⟩ := markText_l0 63 n ⟨#[]⟩ (by omega) (by omega) (by omega) (by decide)
    exact ⟨s, by simp only [laws_markText.f]; exact Ev.neg h hs⟩
/-- The mark of a number. -/
noncomputable def mt (n : Nat) : ByteArray := if h : n ≤ 4611686018427387904 then Classical.choose (markText_ev n h) else ByteArray.empty
theorem mt_ev (n : Nat) (h : n ≤ 4611686018427387904) : Ev (fun k => laws_markText.f k (n : Int)) (mt n) := by
  unfold mt
  rw [dif_pos h]
  exact Classical.choose_spec (markText_ev n h)
theorem markStringS_l0 (n : Nat) (hl : n ≤ 1048576) : ∀ (d i : Nat) (x : List ByteArray), i + d = n → x.length = n → (∀ j, j < i → x[j]? = some (mt (1 + j))) →
    Ev (fun k => laws_markStringS.l0 k x ((1 + i : Nat) : Int) i) (((1 + n : Nat) : Int), (List.range n).map fun j => mt (1 + j)) := by
  intro d
  induction d with
  | zero =>
    intro i x hi hx hp
    refine Ev.succ ?_
    simp only [laws_markStringS.l0]
    refine Ev.neg (by omega) (Ev.to (Ev.now _) ?_)
    obtain rfl : i = n := by omega
    refine congrArg _ (List.ext_getElem? fun j => ?_)
    by_cases hj : j < i
    · rw [hp j hj]
      simp [hj]
    · rw [List.getElem?_eq_none (by omega), List.getElem?_eq_none (by simp; omega)]
  | succ d ih =>
    intro i x hi hx hp
    have hlt : i < x.length := by omega
    refine Ev.succ ?_
    simp only [laws_markStringS.l0]
    rw [w64_succ hlt (by omega), show wrap64 (((1 + i : Nat) : Int) + 1) = ((1 + (i + 1) : Nat) : Int) by rw [w64 (by omega) (by omega)]; omega, Int.toNat_natCast]
    refine Ev.pos (by omega) (Ev.bind (mt_ev (1 + i) (by omega)) (Ev.pos (by omega) (ih (i + 1) _ (by omega) (by simpa using hx) fun j hj => ?_)))
    by_cases e : i = j
    · subst e
      rw [List.getElem?_set_self (by omega)]
    · rw [List.getElem?_set_ne e]
      exact hp j (by omega)
theorem markStringS_ev (l : List ByteArray) (hl : l.length ≤ 1048576) : Ev (fun k => laws_markStringS.f k l 1) (((1 + l.length : Nat) : Int), (List.range l.length).map fun j => mt (1 + j)) := by
  simp only [laws_markStringS.f]
  exact markStringS_l0 l.length hl l.length 0 l (by omega) rfl (fun j hj => absurd hj (by omega))
end Go.Proofs.Ytpdggpfobbkdnaa.A
namespace Go.Proofs.Ytpdggpfobbkdnaa.A
open Go.RowKit Go.Proofs.YtpdggpfobbkdnaaW.PrintWords Go.Proofs.YtpdggpfobbkdnaaW.PrintLast
noncomputable def mkB (j : Nat) : Blk := ⟨mt (3 * j + 1), mt (3 * j + 2), mt (3 * j + 3)⟩
noncomputable def marksB (n : Nat) : List Blk := (List.range n).map mkB
theorem marksB_len (n : Nat) : (marksB n).length = n := by simp [marksB]
theorem w64_num {a b : Nat} (h : a + 1 = b) (hb : b ≤ 9223372036854775807) : wrap64 ((a : Int) + 1) = (b : Int) := by
  rw [w64 (by omega) (by omega)]
  omega
theorem markBlockS_l0 (n : Nat) (hl : n ≤ 1048576) : ∀ (d i : Nat) (x : List Blk), i + d = n → x.length = n → (∀ j, j < i → x[j]? = some (mkB j)) →
    Ev (fun k => laws_markBlockS.l0 k x ((3 * i + 1 : Nat) : Int) i) (((3 * n + 1 : Nat) : Int), marksB n) := by
  intro d
  induction d with
  | zero =>
    intro i x hi hx hp
    refine Ev.succ ?_
    simp only [laws_markBlockS.l0]
    refine Ev.neg (by omega) (Ev.to (Ev.now _) ?_)
    obtain rfl : i = n := by omega
    refine congrArg _ (List.ext_getElem? fun j => ?_)
    by_cases hj : j < i
    · rw [hp j hj]
      simp [marksB, hj]
    · rw [List.getElem?_eq_none (by omega), List.getElem?_eq_none (by rw [marksB_len]; omega)]
  | succ d ih =>
    intro i x hi hx hp
    have hlt : i < x.length := by omega
    refine Ev.succ ?_
    simp only [laws_markBlockS.l0]
    rw [w64_num (b := 3 * i + 2) (by omega) (by omega), w64_num (a := 3 * i + 2) (b := 3 * i + 3) (by omega) (by omega), w64_num (a := 3 * i + 3) (b := 3 * (i + 1) + 1) (by omega) (by omega), w64_succ hlt (by omega), Int.toNat_natCast]
    have hb : ∀ (y : List Blk) (b : Blk), y.length = n → rd_T69 (y.set i b) (i : Int) = b := fun y b hy => by
      rw [rdB_at _ i (by rw [List.length_set]; omega), List.getElem_set_self]
    refine Ev.pos (by omega) (Ev.bind (mt_ev (3 * i + 1) (by omega)) (Ev.pos (by omega) ?_))
    simp only [Option.bind_some]
    refine Ev.bind (mt_ev (3 * i + 2) (by omega)) ?_
    simp only [hb x _ hx]
    refine Ev.bind (mt_ev (3 * i + 3) (by omega)) ?_
    simp only [List.set_set, hb x _ hx]
    refine ih (i + 1) _ (by omega) (by simpa using hx) fun j hj => ?_
    by_cases e : i = j
    · subst e
      rw [List.getElem?_set_self (by omega)]
      rfl
    · rw [List.getElem?_set_ne e]
      exact hp j (by omega)
theorem markBlockS_ev (l : List Blk) (hl : l.length ≤ 1048576) : Ev (fun k => laws_markBlockS.f k l 1) (((3 * l.length + 1 : Nat) : Int), marksB l.length) := by
  simp only [laws_markBlockS.f]
  exact markBlockS_l0 l.length hl l.length 0 l (by omega) rfl (fun j hj => absurd hj (by omega))
end Go.Proofs.Ytpdggpfobbkdnaa.A
namespace Go.Proofs.Ytpdggpfobbkdnaa.A
open Go.RowKit Go.Proofs.YtpdggpfobbkdnaaW.PrintWords Go.Proofs.YtpdggpfobbkdnaaW.PrintLast
/-- The marks from 1 on. -/
noncomputable def marks (n : Nat) : List ByteArray := (List.range n).map fun j => mt (1 + j)
theorem marks_len (n : Nat) : (marks n).length = n := by simp [marks]
theorem marks_at (n i : Nat) (h : i < n) : rdOf ByteArray.empty (marks n) (i : Int) = mt (1 + i) := by
  rw [rdOf_at _ _ _ (by rw [marks_len]; exact h)]
  simp [marks]
theorem heldStringS_l0 (n : Nat) (hl : n ≤ 1048576) : ∀ (d i : Nat), i + d = n → Ev (fun k => laws_heldStringS.l0 k (marks n) ((1 + i : Nat) : Int) i) ((1 + n : Nat) : Int) := by
  intro d
  induction d with
  | zero =>
    intro i hi
    refine Ev.succ ?_
    simp only [laws_heldStringS.l0, marks_len]
    refine Ev.neg (by omega) (Ev.to (Ev.now _) (by omega))
  | succ d ih =>
    intro i hi
    have hlt : i < n := by omega
    refine Ev.succ ?_
    simp only [laws_heldStringS.l0, marks_len]
    rw [marks_at n i hlt, w64_succ hlt (by omega), show wrap64 (((1 + i : Nat) : Int) + 1) = ((1 + (i + 1) : Nat) : Int) by rw [w64 (by omega) (by omega)]; omega]
    exact Ev.pos (by omega) (Ev.pos (by omega) (Ev.bind (mt_ev (1 + i) (by omega)) (Ev.pos rfl (ih (i + 1) (by omega)))))
theorem heldStringS_ev (n : Nat) (hl : n ≤ 1048576) : Ev (fun k => laws_heldStringS.f k (marks n) 1) ((1 + n : Nat) : Int) := by
  simp only [laws_heldStringS.f]
  exact heldStringS_l0 n hl n 0 (by omega)
theorem markStringS_marks (l : List ByteArray) (hl : l.length ≤ 1048576) : Ev (fun k => laws_markStringS.f k l 1) (((1 + l.length : Nat) : Int), marks l.length) := markStringS_ev l hl
end Go.Proofs.Ytpdggpfobbkdnaa.A
namespace Go.Proofs.Ytpdggpfobbkdnaa.A
open Go.RowKit Go.Proofs.YtpdggpfobbkdnaaW.PrintWords Go.Proofs.YtpdggpfobbkdnaaW.PrintLast
theorem BlocksOfKind_l0 (l : List Blk) (w : ByteArray) (hl : l.length ≤ 1048576) : ∀ (d i : Nat) (acc : List ByteArray), i + d = l.length → acc.length ≤ i →
    ∃ r : List ByteArray, r.length ≤ l.length ∧ Ev (fun k => spec_BlocksOfKind.l0 k l w acc i) (r, 0) ∧ Ev (fun k => impl_BlocksOfKind.l0 k w acc l (l.length : Int) i) (r, 0) := by
  intro d
  induction d with
  | zero =>
    intro i acc hi ha
    refine ⟨acc, by omega, Ev.succ ?_, Ev.succ ?_⟩
    · simp only [spec_BlocksOfKind.l0]
      exact Ev.neg (by omega) (Ev.now _)
    · simp only [impl_BlocksOfKind.l0]
      exact Ev.neg (by omega) (Ev.now _)
  | succ d ih =>
    intro i acc hi ha
    have hlt : i < l.length := by omega
    by_cases hc : l[i].f0.toList = w.toList
    · obtain ⟨r, hr, h1, h2⟩ := ih (i + 1) (acc ++ [l[i].f1]) (by omega) (by simp; omega)
      refine ⟨r, hr, Ev.succ ?_, Ev.succ ?_⟩
      · simp only [spec_BlocksOfKind.l0, rdB_at l i hlt, w64_succ hlt (by omega : l.length ≤ _)]
        exact Ev.pos (by omega) (Ev.pos (by omega) (Ev.pos hc (Ev.pos (by omega) h1)))
      · simp only [impl_BlocksOfKind.l0, rdB_at l i hlt, w64_succ hlt (by omega : l.length ≤ _)]
        exact Ev.pos (by omega) (Ev.pos (by omega) (Ev.pos (by omega) (Ev.pos hc (Ev.pos (by omega) h2))))
    · obtain ⟨r, hr, h1, h2⟩ := ih (i + 1) acc (by omega) (by omega)
      refine ⟨r, hr, Ev.succ ?_, Ev.succ ?_⟩
      · simp only [spec_BlocksOfKind.l0, rdB_at l i hlt, w64_succ hlt (by omega : l.length ≤ _)]
        exact Ev.pos (by omega) (Ev.pos (by omega) (Ev.neg hc h1))
      · simp only [impl_BlocksOfKind.l0, rdB_at l i hlt, w64_succ hlt (by omega : l.length ≤ _)]
        exact Ev.pos (by omega) (Ev.pos (by omega) (Ev.pos (by omega) (Ev.neg hc h2)))
theorem BlocksOfKind_ev (l : List Blk) (w : ByteArray) (hl : l.length ≤ 1048576) (hf : ∀ b ∈ l, BFit b) :
    ∃ (r : List ByteArray) (c : Int), r.length ≤ 1048576 ∧ Ev (fun k => spec_BlocksOfKind.f k l w) (r, c) ∧ Ev (fun k => impl_BlocksOfKind.f k l w) (r, c) := by
  have a := l29Ok_ev l (by omega) hf
  have b := ValidBlocks_ev l (by omega) hf
  simp only [spec_BlocksOfKind.f, impl_BlocksOfKind.f]
  cases hr : blksOk l with
  | true =>
    rw [hr] at a b
    obtain ⟨r, h0, h1, h2⟩ := BlocksOfKind_l0 l w hl l.length 0 [] (by omega) (by simp)
    exact ⟨r, 0, by omega, Ev.bind a (Ev.pos rfl h1), Ev.bind b (Ev.pos rfl h2)⟩
  | false =>
    rw [hr] at a b
    exact ⟨[], 1, by simp, Ev.bind a (Ev.neg (by decide) (Ev.now _)), Ev.bind b (Ev.neg (by decide) (Ev.now _))⟩
theorem FnExactBlocksOfKind : laws_FnExactBlocksOfKind.Pure := by
  rintro l w ⟨hl, hs⟩ hw
  refine Ev.rounds (g := fun k => laws_FnExactBlocksOfKind.f k l w) ?_
  simp only [laws_FnExactBlocksOfKind.f]
  by_cases hbig : (w.size : Int) > 1048576
  · exact Ev.pos hbig (Ev.now _)
  refine Ev.neg hbig ?_
  obtain ⟨t, ht, _, hsz⟩ := szBlockS_ev l hl hs
  refine Ev.bind ht ?_
  by_cases hneg : t < 0
  · exact Ev.pos hneg (Ev.now _)
  refine Ev.neg hneg ?_
  obtain ⟨hl1, hs1⟩ := hsz (by omega)
  have hto := toBlockS_ev l hl1
  have hln : (l.map convB).length ≤ 1048576 := by rw [List.length_map]; exact hl1
  have hf := fit_map l 1048576 (by omega) hs1
  obtain ⟨r, c, hr, h1, h2⟩ := BlocksOfKind_ev (l.map convB) w hln hf
  have he := eqStringS_ev r (by omega)
  refine Ev.bind hto (Ev.bind h1 (Ev.bind hto (Ev.bind h2 (Ev.bind he (Ev.pos rfl (Ev.succ ?_))))))
  simp only [laws_FnExactBlocksOfKind.j0, bne_self_eq_false]
  refine Ev.neg (by decide) (Ev.bind hto (Ev.bind (eqBlockS_ev _ (by omega)) (Ev.pos rfl (Ev.bind (markBlockS_ev _ hln) (Ev.neg (by omega) (Ev.bind he (Ev.pos rfl (Ev.succ ?_))))))))
  simp only [laws_FnExactBlocksOfKind.j1]
  refine Ev.neg (by decide) (Ev.bind (markStringS_marks r hr) (Ev.bind (heldStringS_ev r.length hr) (Ev.neg (by omega) (Ev.pos rfl (Ev.bind hto (Ev.bind h2 (Ev.bind he (Ev.pos rfl (Ev.succ ?_)))))))))
  simp only [laws_FnExactBlocksOfKind.j2, bne_self_eq_false]
  exact Ev.neg (by decide) (Ev.bind (heldStringS_ev r.length hr) (Ev.neg (by omega) (Ev.pos rfl (Ev.now _))))
end Go.Proofs.Ytpdggpfobbkdnaa.A
namespace Go.Proofs.Ytpdggpfobbkdnaa.Open
open Go.ChangeShapes Go.WideShapes Go.Deep Go.RowKit Go.Proofs.YtpdggpfobbkdnaaW.PrintWords
/-- Whatever reads at type t is a value of the kind d, and meets wf. -/
structure Opens {α : Type} (P : Program) (t : TypeId) (d : Kd α) (wf : α → Prop) : Prop where
  out : ∀ {H : Type} {enc : TypeId × Value → H} {w : World} {base : Nat} {spare : Nat → Bool} {held : Bool} {fuel : Nat} {cs : List Value} {x : DataW H × List MemPlace},
    DataW.trod enc P w base spare held fuel t cs = some x → ∃ v : α, d.K w v cs ∧ wf v
theorem opens_int {P : Program} {t : TypeId} {k : IntKind} (ht : P.underlying t = some (.int k)) : Opens P t (Kd.int k) (fun n => (Lit.int k n).wf = true) := by
  refine ⟨?_⟩
  intro H enc w base spare held fuel cs x h
  obtain ⟨n, rfl, _, hw⟩ := DataW.trod_int ht h
  exact ⟨n, rfl, hw⟩
theorem opens_string {P : Program} {t : TypeId} (ht : P.underlying t = some .string) : Opens P t Kd.string (fun s => s.size ≤ maxLen) := by
  refine ⟨?_⟩
  intro H enc w base spare held fuel cs x h
  obtain ⟨s, rfl, _, hw⟩ := DataW.trod_string ht h
  exact ⟨s, rfl, hw⟩
theorem opens_bool {P : Program} {t : TypeId} (ht : P.underlying t = some .bool) : Opens P t Kd.bool (fun _ => True) := by
  refine ⟨?_⟩
  intro H enc w base spare held fuel cs x h
  obtain ⟨b, rfl, _⟩ := DataW.trod_bool ht h
  exact ⟨b, rfl, trivial⟩
theorem opens_slice {α : Type} {P : Program} {t e : TypeId} {d : Kd α} {wf : α → Prop} (ht : P.underlying t = some (.slice e)) (hd : Opens P e d wf) (hc : P.cellsOf e = d.sz) :
    Opens P t (Kd.slice e d) (fun l => l.length ≤ maxLen ∧ ∀ x ∈ l, wf x) := by
  refine ⟨?_⟩
  intro H enc w base spare held fuel cs x h
  rcases open_slice ht h with ⟨rfl, _⟩ | ⟨a, len, cap, m, n, D, Pl, rfl, _, hl, hm, hmm, _, hi⟩
  · exact ⟨[], ⟨none, 0, rfl, Nat.le_refl _, ⟨rfl, by simp, fun h => absurd h (by simp)⟩⟩, by simp⟩
  · have hlm : len ≤ m := by
      rw [hmm]
      split
      · exact hl
      · exact Nat.le_refl _
    have each : ∀ i, i < len → ∃ v : α, (∃ cs', w.cells? base (a.add (i * d.sz)) d.sz = some cs' ∧ d.K w v cs') ∧ wf v := by
      intro i hil
      obtain ⟨cs', h1, h2⟩ := hi i (by omega)
      obtain ⟨v, h3, h4⟩ := hd.out h2
      rw [hc] at h1
      exact ⟨v, ⟨cs', h1, h3⟩, h4⟩
    have all : ∀ k, k ≤ len → ∃ l : List α, l.length = k ∧ ∀ i v, l[i]? = some v → (∃ cs', w.cells? base (a.add (i * d.sz)) d.sz = some cs' ∧ d.K w v cs') ∧ wf v := by
      intro k
      induction k with
      | zero => exact fun _ => ⟨[], rfl, fun i v h => by simp at h⟩
      | succ k ih =>
        intro hk
        obtain ⟨l, hl1, hl2⟩ := ih (by omega)
        obtain ⟨v, hv⟩ := each k (by omega)
        refine ⟨l ++ [v], by simp [hl1], fun i u hu => ?_⟩
        by_cases hik : i < k
        · rw [List.getElem?_append_left (by omega)] at hu
          exact hl2 i u hu
        · have hlt := (List.getElem?_eq_some_iff.1 hu).1
          simp [hl1] at hlt
          obtain rfl : i = k := by omega
          rw [List.getElem?_append_right (by omega), hl1, Nat.sub_self] at hu
          simp at hu
          subst hu
          exact hv
    obtain ⟨l, hl1, hl2⟩ := all len (Nat.le_refl _)
    refine ⟨l, ⟨some a, cap, by rw [hl1], by omega, ⟨rfl, by unfold maxLen at hm; omega, fun _ => ⟨a, rfl, fun j p hp => ?_⟩⟩⟩, by omega, fun x hx => ?_⟩
    · obtain ⟨⟨cs', hcs, hK⟩, _⟩ := hl2 j p hp
      obtain ⟨_, hcl, hat⟩ := World.cells?_some hcs
      refine ⟨cs', d.K_len hK, hK, fun i u hu => ?_⟩
      have hlt := (List.getElem?_eq_some_iff.1 hu).1
      have := hat i (by omega)
      rw [← Go.Deep.add_add, this, hu]
    · obtain ⟨i, hi'⟩ := List.getElem?_of_mem hx
      exact (hl2 i x hi').2
/-- The fields from a place on. -/
structure OpensF {α : Type} (P : Program) (fs : Array Field) (off tot : Nat) (d : Kd α) (wf : α → Prop) : Prop where
  out : ∀ {H : Type} {enc : TypeId × Value → H} {w : World} {base : Nat} {spare : Nat → Bool} {held : Bool} {n : Nat} {cs : List Value}, cs.length = tot →
    (∀ (j : Nat) (f : Field), fs[j]? = some f → ∃ y, DataW.trod enc P w base spare held n f.type ((cs.drop f.offset).take (P.cellsOf f.type)) = some y) → ∃ v : α, d.K w v (cs.drop off) ∧ wf v
theorem opensF_last {α : Type} {P : Program} {fs : Array Field} {off tot : Nat} {d : Kd α} {wf : α → Prop} (i : Nat) (f : Field) (hf : fs[i]? = some f) (ho : f.offset = off) (ht : off + P.cellsOf f.type = tot) (hd : Opens P f.type d wf) :
    OpensF P fs off tot d wf := by
  refine ⟨?_⟩
  intro H enc w base spare held n cs hl h
  obtain ⟨y, hy⟩ := h i f hf
  rw [ho, List.take_of_length_le (by rw [List.length_drop]; omega)] at hy
  exact hd.out hy
theorem opensF_cons {α β : Type} {P : Program} {fs : Array Field} {off tot : Nat} {d : Kd α} {wf : α → Prop} {d' : Kd β} {wf' : β → Prop} (i : Nat) (f : Field) (hf : fs[i]? = some f) (ho : f.offset = off) (hd : Opens P f.type d wf) (off' : Nat) (hoff : off + P.cellsOf f.type = off')
    (hr : OpensF P fs off' tot d' wf') : OpensF P fs off tot (Kd.pair d d') (fun p => wf p.1 ∧ wf' p.2) := by
  refine ⟨?_⟩
  intro H enc w base spare held n cs hl h
  obtain ⟨y, hy⟩ := h i f hf
  rw [ho] at hy
  obtain ⟨v, hv, hw⟩ := hd.out hy
  obtain ⟨v', hv', hw'⟩ := hr.out hl h
  refine ⟨(v, v'), ⟨_, _, ?_, hv, hv'⟩, hw, hw'⟩
  rw [← hoff, ← List.drop_drop, List.take_append_drop]
theorem opens_struct {α β : Type} {P : Program} {t : TypeId} {fs : Array Field} {tot : Nat} {d : Kd α} {wf : α → Prop} (f : β → α) (g : α → β) (hfg : ∀ x, f (g x) = x) (ht : P.underlying t = some (.struct fs)) (hc : P.cellsOf t = tot) (h : OpensF P fs 0 tot d wf) :
    Opens P t (Kd.iso d f) (fun b => wf (f b)) := by
  refine ⟨?_⟩
  intro H enc w base spare held fuel cs x hx
  obtain ⟨xs, n, _, _, hlen, hsz, hat⟩ := DataW.trod_struct ht hx
  obtain ⟨v, hv, hw⟩ := h.out (w := w) (enc := enc) (base := base) (spare := spare) (held := held) (n := n) (cs := cs) (hlen.trans hc) (fun j fl hj => by
    have hlt : j < xs.length := by
      have := (Array.getElem?_eq_some_iff.1 hj).1
      omega
    exact ⟨xs[j], (hat j fl hj).trans (List.getElem?_eq_getElem hlt)⟩)
  refine ⟨g v, ?_, ?_⟩
  · show d.K w (f (g v)) cs
    rw [hfg]
    exact hv
  · show wf (f (g v))
    rw [hfg]
    exact hw
/-- A slice argument, opened. -/
theorem arg_slice {α H : Type} {enc : TypeId × Value → H} {P : Program} {W : World} {base : Nat} {spare : Nat → Bool} {held : Bool} {t e : TypeId} {d : Kd α} {wf : List α → Prop} {a : Option Addr} {len cap : Nat} {x : DataW H} {ps : List MemPlace}
    (ho : Opens P t (Kd.slice e d) wf) (h : DataW.Trod enc P W base spare held t (.slice a len cap) x ps) :
    ∃ l : List α, len = l.length ∧ l.length ≤ cap ∧ Kd.C d W a l.length l ∧ wf l := by
  obtain ⟨fuel, hf⟩ := h
  obtain ⟨l, ⟨A, c, hcs, hl, hC⟩, hw⟩ := ho.out hf
  simp [Value.cells] at hcs
  obtain ⟨rfl, rfl, rfl⟩ := hcs
  exact ⟨l, rfl, hl, hC, hw⟩
/-- A struct argument, opened. -/
theorem arg_struct {α H : Type} {enc : TypeId × Value → H} {P : Program} {W : World} {base : Nat} {spare : Nat → Bool} {held : Bool} {t : TypeId} {d : Kd α} {wf : α → Prop} {cs : Array Value} {x : DataW H} {ps : List MemPlace}
    (ho : Opens P t d wf) (h : DataW.Trod enc P W base spare held t (.agg cs) x ps) : ∃ v : α, d.K W v cs.toList ∧ wf v := by
  obtain ⟨fuel, hf⟩ := h
  obtain ⟨v, hv, hw⟩ := ho.out hf
  exact ⟨v, by simpa [Value.cells] using hv, hw⟩
end Go.Proofs.Ytpdggpfobbkdnaa.Open
