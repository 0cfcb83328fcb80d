/- Part 2 of the proof of FnExactBarLinesSaid: the functions that the law runs as plain Lean functions, the contracts of their calls, and plain facts about them. Condition: none beyond each theorem's own hypotheses. -/
import Derived.Test.YtpdggpfobbkdnaaWWords
import Derived.Test.YtpdggpfobbkdnaaWLast
import Derived.Test.YtpdggpfobbkdnaaWTab
import Derived.Test.YtpdggpfobbkdnaaWFour
import Derived.Test.YtpdggpfobbkdnaaWQPut
import Derived.Test.YtpdggpfobbkdnaaWApart
import Derived.Test.YtpdggpfobbkdnaaWArr
import Derived.Test.YtpdggpfobbkdnaaWZeros
import Derived.Test.YtpdggpfobbkdnaaWFoot
import Derived.Test.YtpdggpfobbkdnaaWKept
import Derived.Test.YtpdggpfobbkdnaaWShare
import Derived.Test.YtpdggpfobbkdnaaWN
import Derived.Test.YtpdggpfobbkdnaaWFootNe
import Derived.Test.YtpdggpfobbkdnaaWAt
import Derived.Test.YtpdggpfobbkdnaaWEqStruct
import Derived.Test.YtpdggpfobbkdnaaWRepsOne
import Derived.Test.YtpdggpfobbkdnaaWInv
import Derived.Test.YtpdggpfobbkdnaaWInvWords
import Derived.Test.YtpdggpfobbkdnaaWGuard
import Derived.Test.YtpdggpfobbkdnaaWNEv
import Derived.Test.YtpdggpfobbkdnaaWMore
import Derived.Deep.Slices
import Derived.Deep.Fields
import Derived.ChangeSame
import Derived.ProofKit
import Derived.Test.YtpdggpfobbkdnaaCFnExactBarLines0
namespace Go.Proofs.Ytpdggpfobbkdnaa.A
open Go.RowKit Go.Proofs.YtpdggpfobbkdnaaW.PrintWords Go.Proofs.YtpdggpfobbkdnaaW.PrintLast Go.Proofs.YtpdggpfobbkdnaaW.PrintMore
attribute [local go_sem] max2_int min2_int max_two min_two max_three min_three max_four min_four   -- for this text's walks alone
set_option linter.unusedVariables false
set_option linter.unusedSimpArgs false

/-! ### laws_FnExactBarLines: function 6 -/
mutual
def laws_FnExactBarLines.j0 : Nat → List Int → Int → List ByteArray → Int → List Int → List ByteArray → Int → Bool → Option (Bool)
  | 0, _, _, _, _, _, _, _, _ => none
  | k + 1, x0, x1, x5, x6, x7, x8, x9, x41 => if x41 = true then (some false) else ((laws_toInt64S.f k x0).bind fun t116 => ((laws_eqInt64S.f k x7 t116).bind fun t119 => (if t119 = true then ((laws_markInt64S.f k x7 1).bind fun bt120 => (if bt120.1 < 0 then (laws_FnExactBarLines.j1 k x0 x1 x5 x6 x8 true) else ((laws_eqStringS.f k x8 x5).bind fun t122 => (if t122 = true then (laws_FnExactBarLines.j1 k x0 x1 x5 x6 x8 (x9 != x6)) else (laws_FnExactBarLines.j1 k x0 x1 x5 x6 x8 true))))) else (some false))))
def laws_FnExactBarLines.j1 : Nat → List Int → Int → List ByteArray → Int → List ByteArray → Bool → Option (Bool)
  | 0, _, _, _, _, _, _ => none
  | k + 1, x0, x1, x5, x6, x8, x62 => if x62 = true then (some false) else ((laws_markStringS.f k x8 1).bind fun bt123 => ((laws_heldStringS.f k bt123.2 1).bind fun t125 => (if t125 < 0 then (some false) else (if t125 = bt123.1 then ((laws_toInt64S.f k x0).bind fun t126 => ((impl_BarLines.f k t126 x1).bind fun bt129 => ((laws_eqStringS.f k bt129.1 x5).bind fun t133 => (if t133 = true then (laws_FnExactBarLines.j2 k bt123.2 bt123.1 (bt129.2 != x6)) else (laws_FnExactBarLines.j2 k bt123.2 bt123.1 true))))) else (some false)))))
def laws_FnExactBarLines.j2 : Nat → List ByteArray → Int → Bool → Option (Bool)
  | 0, _, _, _ => none
  | k + 1, x8, x11, x89 => if x89 = true then (some false) else ((laws_heldStringS.f k x8 1).bind fun t134 => (if t134 < 0 then (some false) else (if t134 = x11 then (some true) else (some false))))
end
def laws_FnExactBarLines.f (k : Nat) (l0 : List Int) (a1 : Int) : Option (Bool) := if (l0.length : Int) > 1048576 then (some true) else ((laws_toInt64S.f k l0).bind fun t101 => ((spec_BarLines.f k t101 a1).bind fun bt104 => ((laws_toInt64S.f k l0).bind fun t108 => ((impl_BarLines.f k t108 a1).bind fun bt111 => ((laws_eqStringS.f k bt111.1 bt104.1).bind fun t115 => (if t115 = true then (laws_FnExactBarLines.j0 k l0 a1 bt104.1 bt104.2 t108 bt111.1 bt111.2 (bt111.2 != bt104.2)) else (laws_FnExactBarLines.j0 k l0 a1 bt104.1 bt104.2 t108 bt111.1 bt111.2 true)))))))
theorem laws_FnExactBarLines.mono_l : ∀ k, (∀ y0 y1 y2 y3 y4 y5 y6 y7, LeO (laws_FnExactBarLines.j0 k y0 y1 y2 y3 y4 y5 y6 y7) (laws_FnExactBarLines.j0 (k + 1) y0 y1 y2 y3 y4 y5 y6 y7)) ∧ (∀ y0 y1 y2 y3 y4 y5, LeO (laws_FnExactBarLines.j1 k y0 y1 y2 y3 y4 y5) (laws_FnExactBarLines.j1 (k + 1) y0 y1 y2 y3 y4 y5)) ∧ (∀ y0 y1 y2, LeO (laws_FnExactBarLines.j2 k y0 y1 y2) (laws_FnExactBarLines.j2 (k + 1) y0 y1 y2))
  | 0 => ⟨fun _ _ _ _ _ _ _ _ r h => by simp [laws_FnExactBarLines.j0] at h, fun _ _ _ _ _ _ r h => by simp [laws_FnExactBarLines.j1] at h, fun _ _ _ r h => by simp [laws_FnExactBarLines.j2] at h⟩
  | k + 1 => by
    obtain ⟨ih0, ih1, ih2⟩ := laws_FnExactBarLines.mono_l k
    refine ⟨?_, ?_, ?_⟩
    · intro y0 y1 y2 y3 y4 y5 y6 y7
      unfold laws_FnExactBarLines.j0
      repeat' first
      | (with_reducible exact ih0 _ _ _ _ _ _ _ _)
      | (with_reducible exact ih1 _ _ _ _ _ _)
      | (with_reducible exact ih2 _ _ _)
      | (with_reducible exact impl_BarLines.mono _ _ _)
      | (with_reducible exact laws_eqInt64S.mono _ _ _)
      | (with_reducible exact laws_eqStringS.mono _ _ _)
      | (with_reducible exact laws_heldStringS.mono _ _ _)
      | (with_reducible exact laws_markInt64S.mono _ _ _)
      | (with_reducible exact laws_markStringS.mono _ _ _)
      | (with_reducible exact laws_toInt64S.mono _ _)
      | (with_reducible exact spec_BarLines.mono _ _ _)
      | (with_reducible exact LeO.refl _)
      | (with_reducible exact LeO.none _)
      | (with_reducible refine LeO.ite ?_ ?_)
      | (with_reducible refine LeO.bind ?_ (fun _ => ?_))
      | exact ih0 _ _ _ _ _ _ _ _
      | exact ih1 _ _ _ _ _ _
      | exact ih2 _ _ _
      | exact impl_BarLines.mono _ _ _
      | exact laws_eqInt64S.mono _ _ _
      | exact laws_eqStringS.mono _ _ _
      | exact laws_heldStringS.mono _ _ _
      | exact laws_markInt64S.mono _ _ _
      | exact laws_markStringS.mono _ _ _
      | exact laws_toInt64S.mono _ _
      | exact spec_BarLines.mono _ _ _
      | exact LeO.none _
      | refine LeO.ite ?_ ?_
      | refine LeO.bind ?_ (fun _ => ?_)
    · intro y0 y1 y2 y3 y4 y5
      unfold laws_FnExactBarLines.j1
      repeat' first
      | (with_reducible exact ih0 _ _ _ _ _ _ _ _)
      | (with_reducible exact ih1 _ _ _ _ _ _)
      | (with_reducible exact ih2 _ _ _)
      | (with_reducible exact impl_BarLines.mono _ _ _)
      | (with_reducible exact laws_eqInt64S.mono _ _ _)
      | (with_reducible exact laws_eqStringS.mono _ _ _)
      | (with_reducible exact laws_heldStringS.mono _ _ _)
      | (with_reducible exact laws_markInt64S.mono _ _ _)
      | (with_reducible exact laws_markStringS.mono _ _ _)
      | (with_reducible exact laws_toInt64S.mono _ _)
      | (with_reducible exact spec_BarLines.mono _ _ _)
      | (with_reducible exact LeO.refl _)
      | (with_reducible exact LeO.none _)
      | (with_reducible refine LeO.ite ?_ ?_)
      | (with_reducible refine LeO.bind ?_ (fun _ => ?_))
      | exact ih0 _ _ _ _ _ _ _ _
      | exact ih1 _ _ _ _ _ _
      | exact ih2 _ _ _
      | exact impl_BarLines.mono _ _ _
      | exact laws_eqInt64S.mono _ _ _
      | exact laws_eqStringS.mono _ _ _
      | exact laws_heldStringS.mono _ _ _
      | exact laws_markInt64S.mono _ _ _
      | exact laws_markStringS.mono _ _ _
      | exact laws_toInt64S.mono _ _
      | exact spec_BarLines.mono _ _ _
      | exact LeO.none _
      | refine LeO.ite ?_ ?_
      | refine LeO.bind ?_ (fun _ => ?_)
    · intro y0 y1 y2
      unfold laws_FnExactBarLines.j2
      repeat' first
      | (with_reducible exact ih0 _ _ _ _ _ _ _ _)
      | (with_reducible exact ih1 _ _ _ _ _ _)
      | (with_reducible exact ih2 _ _ _)
      | (with_reducible exact impl_BarLines.mono _ _ _)
      | (with_reducible exact laws_eqInt64S.mono _ _ _)
      | (with_reducible exact laws_eqStringS.mono _ _ _)
      | (with_reducible exact laws_heldStringS.mono _ _ _)
      | (with_reducible exact laws_markInt64S.mono _ _ _)
      | (with_reducible exact laws_markStringS.mono _ _ _)
      | (with_reducible exact laws_toInt64S.mono _ _)
      | (with_reducible exact spec_BarLines.mono _ _ _)
      | (with_reducible exact LeO.refl _)
      | (with_reducible exact LeO.none _)
      | (with_reducible refine LeO.ite ?_ ?_)
      | (with_reducible refine LeO.bind ?_ (fun _ => ?_))
      | exact ih0 _ _ _ _ _ _ _ _
      | exact ih1 _ _ _ _ _ _
      | exact ih2 _ _ _
      | exact impl_BarLines.mono _ _ _
      | exact laws_eqInt64S.mono _ _ _
      | exact laws_eqStringS.mono _ _ _
      | exact laws_heldStringS.mono _ _ _
      | exact laws_markInt64S.mono _ _ _
      | exact laws_markStringS.mono _ _ _
      | exact laws_toInt64S.mono _ _
      | exact spec_BarLines.mono _ _ _
      | exact LeO.none _
      | refine LeO.ite ?_ ?_
      | refine LeO.bind ?_ (fun _ => ?_)
theorem laws_FnExactBarLines.mono : ∀ a0 a1 k, LeO (laws_FnExactBarLines.f k a0 a1) (laws_FnExactBarLines.f (k + 1) a0 a1) := by
  intro a0 a1 k
  obtain ⟨ih0, ih1, ih2⟩ := laws_FnExactBarLines.mono_l k
  unfold laws_FnExactBarLines.f
  repeat' first
      | (with_reducible exact ih0 _ _ _ _ _ _ _ _)
      | (with_reducible exact ih1 _ _ _ _ _ _)
      | (with_reducible exact ih2 _ _ _)
      | (with_reducible exact impl_BarLines.mono _ _ _)
      | (with_reducible exact laws_eqInt64S.mono _ _ _)
      | (with_reducible exact laws_eqStringS.mono _ _ _)
      | (with_reducible exact laws_heldStringS.mono _ _ _)
      | (with_reducible exact laws_markInt64S.mono _ _ _)
      | (with_reducible exact laws_markStringS.mono _ _ _)
      | (with_reducible exact laws_toInt64S.mono _ _)
      | (with_reducible exact spec_BarLines.mono _ _ _)
      | (with_reducible exact LeO.refl _)
      | (with_reducible exact LeO.none _)
      | (with_reducible refine LeO.ite ?_ ?_)
      | (with_reducible refine LeO.bind ?_ (fun _ => ?_))
      | exact ih0 _ _ _ _ _ _ _ _
      | exact ih1 _ _ _ _ _ _
      | exact ih2 _ _ _
      | exact impl_BarLines.mono _ _ _
      | exact laws_eqInt64S.mono _ _ _
      | exact laws_eqStringS.mono _ _ _
      | exact laws_heldStringS.mono _ _ _
      | exact laws_markInt64S.mono _ _ _
      | exact laws_markStringS.mono _ _ _
      | exact laws_toInt64S.mono _ _
      | exact spec_BarLines.mono _ _ _
      | exact LeO.none _
      | refine LeO.ite ?_ ?_
      | refine LeO.bind ?_ (fun _ => ?_)
set_option maxHeartbeats 8000000 in
set_option maxRecDepth 100000 in
theorem laws_FnExactBarLines.calls (k : Nat) (A0 : Option Addr) (c0 : Nat) (l0 : List Int) (a1 : Int) (r : Bool) (w : World) (hr0 : Kd.C (Kd.int .i64) w A0 l0.length l0) (hc0 : l0.length ≤ c0) (h : laws_FnExactBarLines.f k l0 a1 = some r) :
    Calls Try.prog 6 #[.slice A0 l0.length c0, .int .i64 a1] w fun e w' => e = .returned (.bool r) ∧ Below w.heap.size w w' := by
  have HR0 := Aside0.mk hr0
  have HC0 := Aside0.mk hc0
  clear hr0 hc0
  have HB := Aside0.mk (Below.refl w.heap.size w)
  have H : (if (l0.length : Int) > 1048576 then (some true) else ((laws_toInt64S.f k l0).bind fun t101 => ((spec_BarLines.f k t101 a1).bind fun bt104 => ((laws_toInt64S.f k l0).bind fun t108 => ((impl_BarLines.f k t108 a1).bind fun bt111 => ((laws_eqStringS.f k bt111.1 bt104.1).bind fun t115 => (if t115 = true then (laws_FnExactBarLines.j0 k l0 a1 bt104.1 bt104.2 t108 bt111.1 bt111.2 (bt111.2 != bt104.2)) else (laws_FnExactBarLines.j0 k l0 a1 bt104.1 bt104.2 t108 bt111.1 bt111.2 true)))))))) = some r := h
  clear h
  by_cases c3 : (l0.length : Int) > 1048576
  · rw [if_pos c3] at H
    have c3b0 : decide (1048576 < (l0.length : Int)) = true := decide_eq_true c3
    have c3b1 : decide (1048576 < l0.length) = true := decide_eq_true (by omega)
    clear c3
    obtain rfl := Option.some.inj H
    go_enter Try.func6, Try.ntmps6
    go_wp2
    go_ret
    exact ⟨by first | rfl | (simp [errW_none, errW_some] <;> rfl) | (simp [*, errW_none, errW_some] <;> rfl), by repeat (first | (with_reducible first | exact HB.out | apply below_alloc | apply pw_below_drewN | apply below_drew1) | exact HB.out)⟩
  · rw [if_neg c3] at H
    have c3b0 : decide (1048576 < (l0.length : Int)) = false := decide_eq_false c3
    have c3b1 : decide (1048576 < l0.length) = false := decide_eq_false (by omega)
    clear c3
    replace H := Option.bind_eq_some_iff.mp H
    obtain ⟨t101, A40, H⟩ := H
    replace H : ((spec_BarLines.f k t101 a1).bind fun bt104 => ((laws_toInt64S.f k l0).bind fun t108 => ((impl_BarLines.f k t108 a1).bind fun bt111 => ((laws_eqStringS.f k bt111.1 bt104.1).bind fun t115 => (if t115 = true then (laws_FnExactBarLines.j0 k l0 a1 bt104.1 bt104.2 t108 bt111.1 bt111.2 (bt111.2 != bt104.2)) else (laws_FnExactBarLines.j0 k l0 a1 bt104.1 bt104.2 t108 bt111.1 bt111.2 true)))))) = some r := H
    have A4 := Aside0.mk A40
    clear A40
    replace H := Option.bind_eq_some_iff.mp H
    obtain ⟨⟨t104, t105⟩, A50, H⟩ := H
    replace H : ((laws_toInt64S.f k l0).bind fun t108 => ((impl_BarLines.f k t108 a1).bind fun bt111 => ((laws_eqStringS.f k bt111.1 t104).bind fun t115 => (if t115 = true then (laws_FnExactBarLines.j0 k l0 a1 t104 t105 t108 bt111.1 bt111.2 (bt111.2 != t105)) else (laws_FnExactBarLines.j0 k l0 a1 t104 t105 t108 bt111.1 bt111.2 true))))) = some r := H
    have A5 := Aside0.mk A50
    clear A50
    replace H := Option.bind_eq_some_iff.mp H
    obtain ⟨t108, A60, H⟩ := H
    replace H : ((impl_BarLines.f k t108 a1).bind fun bt111 => ((laws_eqStringS.f k bt111.1 t104).bind fun t115 => (if t115 = true then (laws_FnExactBarLines.j0 k l0 a1 t104 t105 t108 bt111.1 bt111.2 (bt111.2 != t105)) else (laws_FnExactBarLines.j0 k l0 a1 t104 t105 t108 bt111.1 bt111.2 true)))) = some r := H
    have A6 := Aside0.mk A60
    clear A60
    replace H := Option.bind_eq_some_iff.mp H
    obtain ⟨⟨t111, t112⟩, A70, H⟩ := H
    replace H : ((laws_eqStringS.f k t111 t104).bind fun t115 => (if t115 = true then (laws_FnExactBarLines.j0 k l0 a1 t104 t105 t108 t111 t112 (t112 != t105)) else (laws_FnExactBarLines.j0 k l0 a1 t104 t105 t108 t111 t112 true))) = some r := H
    have A7 := Aside0.mk A70
    clear A70
    have HC8 := Aside0.mk H
    clear H
    go_enter Try.func6, Try.ntmps6
    go_upto_region 6 with (first | ((with_reducible refine gate_callee (f := 31) rfl ?_); refine goesL_ (some 20) rfl rfl Try.func31 (by kernel_rfl) rfl #[.slice A0 l0.length c0] rfl (by (try simp only [List.map_toArray, List.map_cons, List.map_nil]); first | done | rfl | (simp only [List.length_drop, List.length_take]; rfl)) ?_; (with_reducible refine (laws_toInt64S.calls k _ _ l0 t101 _ ?side1 ?side2 A4.out).mono ?_); (case side1 => repeat (first | exact HR0.out | (with_reducible refine Kd.C_alloc ?_ _) | (with_reducible refine Kd.C_drewN ?_ _) | (with_reducible refine Kd.C_drew ?_))); (case side2 => exact HC0.out); rintro e w9 ⟨v102, rfl, ho0, hb⟩; refine ⟨_, rfl, ?_⟩; have n0_ := Aside0.mk (Kd.R_lower ho0 (below_size (by repeat (first | (with_reducible first | exact HB.out | apply below_alloc | apply pw_below_drewN | apply below_drew1) | exact HB.out)))); have n1_ := Aside0.mk (below_step (by repeat (first | (with_reducible first | exact HB.out | apply below_alloc | apply pw_below_drewN | apply below_drew1) | exact HB.out)) hb); clear HB; have HO103 := n0_; have HB := n1_; clear n0_ n1_; (try clear hb); (try clear hb2); (try clear hk); (try clear hi); (try clear ho0); obtain ⟨Ao10, co10, eo10⟩ := Kd.R_slice HO103.out; subst eo10) | ((with_reducible refine gate_callee (f := 30) rfl ?_); refine goesL_ (some 22) rfl rfl Try.func30 (by kernel_rfl) rfl #[.slice Ao10 t101.length co10, .int .i64 a1] rfl (by (try simp only [List.map_toArray, List.map_cons, List.map_nil]); first | done | rfl | (simp only [List.length_drop, List.length_take]; rfl)) ?_; (with_reducible refine (spec_BarLines.calls k _ _ t101 a1 t104 t105 _ ?side1 ?side2 A5.out).mono ?_); (case side1 => repeat (first | exact (Kd.R_reads' HO103.out).2.2 | (with_reducible refine Kd.C_alloc ?_ _) | (with_reducible refine Kd.C_drewN ?_ _) | (with_reducible refine Kd.C_drew ?_))); (case side2 => exact (Kd.R_reads' HO103.out).2.1); rintro e w11 ⟨v106, rfl, ho0, hb⟩; refine ⟨_, rfl, ?_⟩; have n0_ := Aside0.mk (Kd.R_below (by (with_reducible repeat (first | apply Kd.R_alloc | apply Kd.R_drewN | apply Kd.R_drew)); exact HO103.out) hb); have n1_ := Aside0.mk (Kd.R_lower ho0 (below_size (by repeat (first | (with_reducible first | exact HB.out | apply below_alloc | apply pw_below_drewN | apply below_drew1) | exact HB.out)))); have n2_ := Aside0.mk (below_step (by repeat (first | (with_reducible first | exact HB.out | apply below_alloc | apply pw_below_drewN | apply below_drew1) | exact HB.out)) hb); clear HO103; clear HB; have HO103 := n0_; have HO107 := n1_; have HB := n2_; clear n0_ n1_ n2_; (try clear hb); (try clear hb2); (try clear hk); (try clear hi); (try clear ho0)) | ((with_reducible refine gate_callee (f := 31) rfl ?_); refine goesL_ (some 26) rfl rfl Try.func31 (by kernel_rfl) rfl #[.slice A0 l0.length c0] rfl (by (try simp only [List.map_toArray, List.map_cons, List.map_nil]); first | done | rfl | (simp only [List.length_drop, List.length_take]; rfl)) ?_; (with_reducible refine (laws_toInt64S.calls k _ _ l0 t108 _ ?side1 ?side2 A6.out).mono ?_); (case side1 => repeat (first | exact (Kd.C_below HR0.out HB.out) | (with_reducible refine Kd.C_alloc ?_ _) | (with_reducible refine Kd.C_drewN ?_ _) | (with_reducible refine Kd.C_drew ?_))); (case side2 => exact HC0.out); rintro e w12 ⟨v109, rfl, ho0, hb⟩; refine ⟨_, rfl, ?_⟩; have n0_ := Aside0.mk (Kd.R_elder' (by (with_reducible repeat (first | apply Kd.R_alloc | apply Kd.R_drewN | apply Kd.R_drew)); exact HO103.out) (Kd.R_base ho0) hb); have n1_ := Aside0.mk (Kd.R_below (by (with_reducible repeat (first | apply Kd.R_alloc | apply Kd.R_drewN | apply Kd.R_drew)); exact HO107.out) hb); have n2_ := Aside0.mk (Kd.R_lower (Kd.R_new' ho0 (Kd.R_lt (by (with_reducible repeat (first | apply Kd.R_alloc | apply Kd.R_drewN | apply Kd.R_drew)); exact HO103.out))) (below_size (by repeat (first | (with_reducible first | exact HB.out | apply below_alloc | apply pw_below_drewN | apply below_drew1) | exact HB.out)))); have n3_ := Aside0.mk (below_step (by repeat (first | (with_reducible first | exact HB.out | apply below_alloc | apply pw_below_drewN | apply below_drew1) | exact HB.out)) hb); clear HO103; clear HO107; clear HB; have HO103 := n0_; have HO107 := n1_; have HO110 := n2_; have HB := n3_; clear n0_ n1_ n2_ n3_; (try clear hb); (try clear hb2); (try clear hk); (try clear hi); (try clear ho0); obtain ⟨Ao13, co13, eo13⟩ := Kd.R_slice HO110.out; subst eo13) | ((with_reducible refine gate_callee (f := 32) rfl ?_); refine goesL_ (some 30) rfl rfl Try.func32 (by kernel_rfl) rfl #[.slice Ao13 t108.length co13, .int .i64 a1] rfl (by (try simp only [List.map_toArray, List.map_cons, List.map_nil]); first | done | rfl | (simp only [List.length_drop, List.length_take]; rfl)) ?_; (with_reducible refine (impl_BarLines.calls k _ _ t108 a1 t111 t112 _ ?side1 ?side2 A7.out).mono ?_); (case side1 => repeat (first | exact (Kd.R_reads' HO110.out).2.2 | (with_reducible refine Kd.C_alloc ?_ _) | (with_reducible refine Kd.C_drewN ?_ _) | (with_reducible refine Kd.C_drew ?_))); (case side2 => exact (Kd.R_reads' HO110.out).2.1); rintro e w14 ⟨v113, rfl, ho0, hb⟩; refine ⟨_, rfl, ?_⟩; have n0_ := Aside0.mk (Kd.R_below (by (with_reducible repeat (first | apply Kd.R_alloc | apply Kd.R_drewN | apply Kd.R_drew)); exact HO103.out) hb); have n1_ := Aside0.mk (Kd.R_elder' (by (with_reducible repeat (first | apply Kd.R_alloc | apply Kd.R_drewN | apply Kd.R_drew)); exact HO107.out) (Kd.R_base ho0) hb); have n2_ := Aside0.mk (Kd.R_below (by (with_reducible repeat (first | apply Kd.R_alloc | apply Kd.R_drewN | apply Kd.R_drew)); exact HO110.out) hb); have n3_ := Aside0.mk (Kd.R_lower (Kd.R_new' ho0 (Kd.R_lt (by (with_reducible repeat (first | apply Kd.R_alloc | apply Kd.R_drewN | apply Kd.R_drew)); exact HO107.out))) (below_size (by repeat (first | (with_reducible first | exact HB.out | apply below_alloc | apply pw_below_drewN | apply below_drew1) | exact HB.out)))); have n4_ := Aside0.mk (below_step (by repeat (first | (with_reducible first | exact HB.out | apply below_alloc | apply pw_below_drewN | apply below_drew1) | exact HB.out)) hb); clear HO103; clear HO107; clear HO110; clear HB; have HO103 := n0_; have HO107 := n1_; have HO110 := n2_; have HO114 := n3_; have HB := n4_; clear n0_ n1_ n2_ n3_ n4_; (try clear hb); (try clear hb2); (try clear hk); (try clear hi); (try clear ho0)))
    (try simp only [Act.put, List.setIfInBounds_toArray, List.set_cons_zero, List.set_cons_succ])
    go_cut [41] (fun v41 wc => ∃ (kq : Nat) (x41_7 : Bool), v41 = .bool x41_7 ∧ Aside0 (laws_FnExactBarLines.j0 kq l0 a1 t104 t105 t108 t111 t112 x41_7 = some r) ∧ Aside0 (kq ≤ k) ∧ Aside0 (Kd.R Kd.string 9 wc w.heap.size (fun k_ => some k_ ≠ (v113 : Value).ownBlock) v106 t104) ∧ Aside0 (Kd.R (Kd.int .i64) 2 wc w.heap.size (fun _ => True) (.slice Ao13 t108.length co13) t108) ∧ Aside0 (Kd.R Kd.string 9 wc w.heap.size (fun k_ => some k_ ≠ (v106 : Value).ownBlock) v113 t111) ∧ Aside0 (Below w.heap.size w wc))
    case first =>
      have H := HC8.out
      clear HC8
      replace H := Option.bind_eq_some_iff.mp H
      obtain ⟨t115, A150, H⟩ := H
      replace H : (if t115 = true then (laws_FnExactBarLines.j0 k l0 a1 t104 t105 t108 t111 t112 (t112 != t105)) else (laws_FnExactBarLines.j0 k l0 a1 t104 t105 t108 t111 t112 true)) = some r := H
      have A15 := Aside0.mk A150
      clear A150
      by_cases c16 : t115 = true
      · subst c16
        have H1 : (laws_FnExactBarLines.j0 k l0 a1 t104 t105 t108 t111 t112 (t112 != t105)) = some r := by rw [if_pos rfl] at H; exact H
        clear H
        have H := H1
        clear H1
        have H' := Aside0.mk H
        clear H
        obtain ⟨Ao17, co17, eo17⟩ := Kd.R_slice HO114.out
        subst eo17
        obtain ⟨Ao18, co18, eo18⟩ := Kd.R_slice HO107.out
        subst eo18
        go_wp2_with (first | ((with_reducible refine gate_callee (f := 19) rfl ?_); refine goesL_ (some 35) rfl rfl Try.func19 (by kernel_rfl) rfl #[.slice Ao17 t111.length co17, .slice Ao18 t104.length co18] rfl (by (try simp only [List.map_toArray, List.map_cons, List.map_nil]); first | done | rfl | (simp only [List.length_drop, List.length_take]; rfl)) ?_; (with_reducible refine (laws_eqStringS.calls k _ _ t111 _ _ t104 true _ ?side1 ?side2 ?side3 ?side4 A15.out).mono ?_); (case side1 => repeat (first | exact (Kd.R_reads' HO114.out).2.2 | (with_reducible refine Kd.C_alloc ?_ _) | (with_reducible refine Kd.C_drewN ?_ _) | (with_reducible refine Kd.C_drew ?_))); (case side2 => exact (Kd.R_reads' HO114.out).2.1); (case side3 => repeat (first | exact (Kd.R_reads' HO107.out).2.2 | (with_reducible refine Kd.C_alloc ?_ _) | (with_reducible refine Kd.C_drewN ?_ _) | (with_reducible refine Kd.C_drew ?_))); (case side4 => exact (Kd.R_reads' HO107.out).2.1); rintro e w' ⟨rfl, ⟨nd, rfl⟩⟩; refine ⟨_, rfl, ?_⟩))
        go_meet
        case rel => exact ⟨_, ((t112 != t105)), (by first | rfl | (simp; done) | (simp [*]; done)), H', ⟨by first | omega | exact Nat.le_refl _⟩, ⟨by (with_reducible repeat (first | apply Kd.R_alloc | apply Kd.R_drewN | apply Kd.R_drew)); exact Kd.R_mono HO107.out (fun _ hk => hk.2)⟩, ⟨by (with_reducible repeat (first | apply Kd.R_alloc | apply Kd.R_drewN | apply Kd.R_drew)); exact Kd.R_mono HO110.out (fun _ hk => trivial)⟩, ⟨by (with_reducible repeat (first | apply Kd.R_alloc | apply Kd.R_drewN | apply Kd.R_drew)); exact Kd.R_mono HO114.out (fun _ hk => hk.2)⟩, ⟨by repeat (first | (with_reducible first | exact HB.out | apply below_alloc | apply pw_below_drewN | apply below_drew1) | exact HB.out)⟩⟩
      · replace c16 := Bool.eq_false_iff.mpr c16
        subst c16
        have H1 : (laws_FnExactBarLines.j0 k l0 a1 t104 t105 t108 t111 t112 true) = some r := by rw [if_neg (show ¬ (false = true) by decide)] at H; exact H
        clear H
        have H := H1
        clear H1
        have H' := Aside0.mk H
        clear H
        obtain ⟨Ao19, co19, eo19⟩ := Kd.R_slice HO114.out
        subst eo19
        obtain ⟨Ao20, co20, eo20⟩ := Kd.R_slice HO107.out
        subst eo20
        go_wp2_with (first | ((with_reducible refine gate_callee (f := 19) rfl ?_); refine goesL_ (some 35) rfl rfl Try.func19 (by kernel_rfl) rfl #[.slice Ao19 t111.length co19, .slice Ao20 t104.length co20] rfl (by (try simp only [List.map_toArray, List.map_cons, List.map_nil]); first | done | rfl | (simp only [List.length_drop, List.length_take]; rfl)) ?_; (with_reducible refine (laws_eqStringS.calls k _ _ t111 _ _ t104 false _ ?side1 ?side2 ?side3 ?side4 A15.out).mono ?_); (case side1 => repeat (first | exact (Kd.R_reads' HO114.out).2.2 | (with_reducible refine Kd.C_alloc ?_ _) | (with_reducible refine Kd.C_drewN ?_ _) | (with_reducible refine Kd.C_drew ?_))); (case side2 => exact (Kd.R_reads' HO114.out).2.1); (case side3 => repeat (first | exact (Kd.R_reads' HO107.out).2.2 | (with_reducible refine Kd.C_alloc ?_ _) | (with_reducible refine Kd.C_drewN ?_ _) | (with_reducible refine Kd.C_drew ?_))); (case side4 => exact (Kd.R_reads' HO107.out).2.1); rintro e w' ⟨rfl, ⟨nd, rfl⟩⟩; refine ⟨_, rfl, ?_⟩))
        go_meet
        case rel => exact ⟨_, (true), (by first | rfl | (simp; done) | (simp [*]; done)), H', ⟨by first | omega | exact Nat.le_refl _⟩, ⟨by (with_reducible repeat (first | apply Kd.R_alloc | apply Kd.R_drewN | apply Kd.R_drew)); exact Kd.R_mono HO107.out (fun _ hk => hk.2)⟩, ⟨by (with_reducible repeat (first | apply Kd.R_alloc | apply Kd.R_drewN | apply Kd.R_drew)); exact Kd.R_mono HO110.out (fun _ hk => trivial)⟩, ⟨by (with_reducible repeat (first | apply Kd.R_alloc | apply Kd.R_drewN | apply Kd.R_drew)); exact Kd.R_mono HO114.out (fun _ hk => hk.2)⟩, ⟨by repeat (first | (with_reducible first | exact HB.out | apply below_alloc | apply pw_below_drewN | apply below_drew1) | exact HB.out)⟩⟩
    case rest =>
      clear HC8
      try clear c1
      try clear p2
      try clear c3
      try clear c3b0
      try clear c3b1
      try clear c6
      try clear c16
      try clear c19
      obtain ⟨kq, x41_7, rfl, HA, HJ7, HO_5, HO_7, HO_8, HB⟩ := hcut
      cases kq with
      | zero => exact absurd HA.out (by simp [laws_FnExactBarLines.j0])
      | succ kj7 =>
        have H := HA.out
        clear HA
        simp only [laws_FnExactBarLines.j0] at H
        by_cases c21 : x41_7 = true
        · subst c21
          have H1 : (some false) = some r := by rw [if_pos rfl] at H; exact H
          clear H
          have H := H1
          clear H1
          obtain rfl := Option.some.inj H
          go_wp2
          go_ret
          exact ⟨by first | rfl | (simp [errW_none, errW_some] <;> rfl) | (simp [*, errW_none, errW_some] <;> rfl), by repeat (first | (with_reducible first | exact HB.out | apply below_alloc | apply pw_below_drewN | apply below_drew1) | exact HB.out)⟩
        · replace c21 := Bool.eq_false_iff.mpr c21
          subst c21
          have H1 : ((laws_toInt64S.f kj7 l0).bind fun t116 => ((laws_eqInt64S.f kj7 t108 t116).bind fun t119 => (if t119 = true then ((laws_markInt64S.f kj7 t108 1).bind fun bt120 => (if bt120.1 < 0 then (laws_FnExactBarLines.j1 kj7 l0 a1 t104 t105 t111 true) else ((laws_eqStringS.f kj7 t111 t104).bind fun t122 => (if t122 = true then (laws_FnExactBarLines.j1 kj7 l0 a1 t104 t105 t111 (t112 != t105)) else (laws_FnExactBarLines.j1 kj7 l0 a1 t104 t105 t111 true))))) else (some false)))) = some r := by rw [if_neg (show ¬ (false = true) by decide)] at H; exact H
          clear H
          have H := H1
          clear H1
          replace H := Option.bind_eq_some_iff.mp H
          obtain ⟨t116, A220, H⟩ := H
          replace H : ((laws_eqInt64S.f kj7 t108 t116).bind fun t119 => (if t119 = true then ((laws_markInt64S.f kj7 t108 1).bind fun bt120 => (if bt120.1 < 0 then (laws_FnExactBarLines.j1 kj7 l0 a1 t104 t105 t111 true) else ((laws_eqStringS.f kj7 t111 t104).bind fun t122 => (if t122 = true then (laws_FnExactBarLines.j1 kj7 l0 a1 t104 t105 t111 (t112 != t105)) else (laws_FnExactBarLines.j1 kj7 l0 a1 t104 t105 t111 true))))) else (some false))) = some r := H
          have A22 := Aside0.mk A220
          clear A220
          replace H := Option.bind_eq_some_iff.mp H
          obtain ⟨t119, A230, H⟩ := H
          replace H : (if t119 = true then ((laws_markInt64S.f kj7 t108 1).bind fun bt120 => (if bt120.1 < 0 then (laws_FnExactBarLines.j1 kj7 l0 a1 t104 t105 t111 true) else ((laws_eqStringS.f kj7 t111 t104).bind fun t122 => (if t122 = true then (laws_FnExactBarLines.j1 kj7 l0 a1 t104 t105 t111 (t112 != t105)) else (laws_FnExactBarLines.j1 kj7 l0 a1 t104 t105 t111 true))))) else (some false)) = some r := H
          have A23 := Aside0.mk A230
          clear A230
          by_cases c24 : t119 = true
          · subst c24
            have H1 : ((laws_markInt64S.f kj7 t108 1).bind fun bt120 => (if bt120.1 < 0 then (laws_FnExactBarLines.j1 kj7 l0 a1 t104 t105 t111 true) else ((laws_eqStringS.f kj7 t111 t104).bind fun t122 => (if t122 = true then (laws_FnExactBarLines.j1 kj7 l0 a1 t104 t105 t111 (t112 != t105)) else (laws_FnExactBarLines.j1 kj7 l0 a1 t104 t105 t111 true))))) = some r := by rw [if_pos rfl] at H; exact H
            clear H
            have H := H1
            clear H1
            replace H := Option.bind_eq_some_iff.mp H
            obtain ⟨⟨t120, t121⟩, A250, H⟩ := H
            replace H : (if t120 < 0 then (laws_FnExactBarLines.j1 kj7 l0 a1 t104 t105 t111 true) else ((laws_eqStringS.f kj7 t111 t104).bind fun t122 => (if t122 = true then (laws_FnExactBarLines.j1 kj7 l0 a1 t104 t105 t111 (t112 != t105)) else (laws_FnExactBarLines.j1 kj7 l0 a1 t104 t105 t111 true)))) = some r := H
            have A25 := Aside0.mk A250
            clear A250
            have HC26 := Aside0.mk H
            clear H
            go_upto_region 12 with (first | ((with_reducible refine gate_callee (f := 31) rfl ?_); refine goesL_ (some 44) rfl rfl Try.func31 (by kernel_rfl) rfl #[.slice A0 l0.length c0] rfl (by (try simp only [List.map_toArray, List.map_cons, List.map_nil]); first | done | rfl | (simp only [List.length_drop, List.length_take]; rfl)) ?_; (with_reducible refine (laws_toInt64S.calls kj7 _ _ l0 t116 _ ?side1 ?side2 A22.out).mono ?_); (case side1 => repeat (first | exact (Kd.C_below HR0.out HB.out) | (with_reducible refine Kd.C_alloc ?_ _) | (with_reducible refine Kd.C_drewN ?_ _) | (with_reducible refine Kd.C_drew ?_))); (case side2 => exact HC0.out); rintro e w27 ⟨v117, rfl, ho0, hb⟩; refine ⟨_, rfl, ?_⟩; have n0_ := Aside0.mk (Kd.R_below (by (with_reducible repeat (first | apply Kd.R_alloc | apply Kd.R_drewN | apply Kd.R_drew)); exact HO_5.out) hb); have n1_ := Aside0.mk (Kd.R_elder' (by (with_reducible repeat (first | apply Kd.R_alloc | apply Kd.R_drewN | apply Kd.R_drew)); exact HO_7.out) (Kd.R_base ho0) hb); have n2_ := Aside0.mk (Kd.R_below (by (with_reducible repeat (first | apply Kd.R_alloc | apply Kd.R_drewN | apply Kd.R_drew)); exact HO_8.out) hb); have n3_ := Aside0.mk (Kd.R_lower (Kd.R_new' ho0 (Kd.R_lt (by (with_reducible repeat (first | apply Kd.R_alloc | apply Kd.R_drewN | apply Kd.R_drew)); exact HO_7.out))) (below_size (by repeat (first | (with_reducible first | exact HB.out | apply below_alloc | apply pw_below_drewN | apply below_drew1) | exact HB.out)))); have n4_ := Aside0.mk (below_step (by repeat (first | (with_reducible first | exact HB.out | apply below_alloc | apply pw_below_drewN | apply below_drew1) | exact HB.out)) hb); clear HO_5; clear HO_7; clear HO_8; clear HB; have HO_5 := n0_; have HO_7 := n1_; have HO_8 := n2_; have HO118 := n3_; have HB := n4_; clear n0_ n1_ n2_ n3_ n4_; (try clear hb); (try clear hb2); (try clear hk); (try clear hi); (try clear ho0); obtain ⟨Ao28, co28, eo28⟩ := Kd.R_slice HO118.out; subst eo28) | ((with_reducible refine gate_callee (f := 18) rfl ?_); refine goesL_ (some 45) rfl rfl Try.func18 (by kernel_rfl) rfl #[.slice Ao13 t108.length co13, .slice Ao28 t116.length co28] rfl (by (try simp only [List.map_toArray, List.map_cons, List.map_nil]); first | done | rfl | (simp only [List.length_drop, List.length_take]; rfl)) ?_; (with_reducible refine (laws_eqInt64S.calls kj7 _ _ t108 _ _ t116 true _ ?side1 ?side2 ?side3 ?side4 A23.out).mono ?_); (case side1 => repeat (first | exact (Kd.R_reads' HO_7.out).2.2 | (with_reducible refine Kd.C_alloc ?_ _) | (with_reducible refine Kd.C_drewN ?_ _) | (with_reducible refine Kd.C_drew ?_))); (case side2 => exact (Kd.R_reads' HO_7.out).2.1); (case side3 => repeat (first | exact (Kd.R_reads' HO118.out).2.2 | (with_reducible refine Kd.C_alloc ?_ _) | (with_reducible refine Kd.C_drewN ?_ _) | (with_reducible refine Kd.C_drew ?_))); (case side4 => exact (Kd.R_reads' HO118.out).2.1); rintro e w' ⟨rfl, ⟨nd, rfl⟩⟩; refine ⟨_, rfl, ?_⟩) | ((with_reducible refine gate_callee (f := 21) rfl ?_); refine goesL_ (some 49) rfl rfl Try.func21 (by kernel_rfl) rfl #[.slice Ao13 t108.length co13, .int .i64 1] rfl (by (try simp only [List.map_toArray, List.map_cons, List.map_nil]); first | done | rfl | (simp only [List.length_drop, List.length_take]; rfl)) ?_; (with_reducible refine (laws_markInt64S.calls kj7 (fun k_ => some k_ = (.slice Ao13 t108.length co13 : Value).ownBlock) (.slice Ao13 t108.length co13) t108 1 t120 t121 w _ ?side1 ?side2 A25.out).mono ?_); (case side1 => repeat (first | (with_reducible first | exact HB.out | apply below_alloc | apply pw_below_drewN | apply below_drew1) | exact HB.out)); (case side2 => exact Kd.R_tight rfl HO_7.out); rintro e w29 ⟨rfl, hy0, hb, hkp⟩; refine ⟨_, rfl, ?_⟩; have n0_ := Aside0.mk (Kd.R_mono (ok' := fun k_ => some k_ ≠ (v113 : Value).ownBlock) (Kd.R_keptB ((Kd.R_apart' HO_5.out (Kd.R_typed HO_7.out) (by decide))) hkp (fun k_ hk_ hs_ => (hk_.2) hs_)) (fun k_ hk_ => hk_.1.1)); have n1_ := Aside0.mk (Kd.R_reok rfl hy0 (fun k_ e_ => HO_7.out.1 k_ e_)); have n2_ := Aside0.mk (Kd.R_mono (ok' := fun k_ => some k_ ≠ (v106 : Value).ownBlock) (Kd.R_keptB ((Kd.R_apart' HO_8.out (Kd.R_typed HO_7.out) (by decide))) hkp (fun k_ hk_ hs_ => (hk_.2) hs_)) (fun k_ hk_ => hk_.1.1)); have n3_ := Aside0.mk (Kd.R_mono (ok' := fun k_ => some k_ ≠ (.slice Ao13 t108.length co13 : Value).ownBlock) (Kd.R_keptB (HO118.out) hkp (fun k_ hk_ hs_ => (hk_.2) hs_)) (fun k_ hk_ => hk_.1.2)); have n4_ := Aside0.mk (hb); clear HO_5; clear HO_7; clear HO_8; clear HO118; clear HB; have HO_5 := n0_; have HO_7 := n1_; have HO_8 := n2_; have HO118 := n3_; have HB := n4_; clear n0_ n1_ n2_ n3_ n4_; (try clear hb); (try clear hkp); (try clear hy0)))
            (try simp only [Act.put, List.setIfInBounds_toArray, List.set_cons_zero, List.set_cons_succ])
            go_cut [62] (fun v62 wc => ∃ (kq : Nat) (x62_25 : Bool), v62 = .bool x62_25 ∧ Aside0 (laws_FnExactBarLines.j1 kq l0 a1 t104 t105 t111 x62_25 = some r) ∧ Aside0 (kq ≤ kj7) ∧ Aside0 (Kd.R Kd.string 9 wc w.heap.size (fun k_ => some k_ ≠ (v113 : Value).ownBlock) v106 t104) ∧ Aside0 (Kd.R Kd.string 9 wc w.heap.size (fun k_ => some k_ ≠ (v106 : Value).ownBlock) v113 t111) ∧ Aside0 (Below w.heap.size w wc))
            case first =>
              have H := HC26.out
              clear HC26
              by_cases c30 : t120 < 0
              · rw [if_pos c30] at H
                have c30b0 : decide (t120 < 0) = true := decide_eq_true c30
                clear c30
                (first | rw [c30b0] | (simp only [i64_w, i32_w]; rw [c30b0]) | skip)
                have H' := Aside0.mk H
                clear H
                go_wp2
                go_meet
                case rel => exact ⟨_, (true), (by first | rfl | (simp; done) | (simp [*]; done)), H', ⟨by have := HJ7.out; first | omega | exact Nat.le_refl _⟩, ⟨by (with_reducible repeat (first | apply Kd.R_alloc | apply Kd.R_drewN | apply Kd.R_drew)); exact HO_5.out⟩, ⟨by (with_reducible repeat (first | apply Kd.R_alloc | apply Kd.R_drewN | apply Kd.R_drew)); exact HO_8.out⟩, ⟨by repeat (first | (with_reducible first | exact HB.out | apply below_alloc | apply pw_below_drewN | apply below_drew1) | exact HB.out)⟩⟩
              · rw [if_neg c30] at H
                have c30b0 : decide (t120 < 0) = false := decide_eq_false c30
                clear c30
                (first | rw [c30b0] | (simp only [i64_w, i32_w]; rw [c30b0]) | skip)
                replace H := Option.bind_eq_some_iff.mp H
                obtain ⟨t122, A310, H⟩ := H
                replace H : (if t122 = true then (laws_FnExactBarLines.j1 kj7 l0 a1 t104 t105 t111 (t112 != t105)) else (laws_FnExactBarLines.j1 kj7 l0 a1 t104 t105 t111 true)) = some r := H
                have A31 := Aside0.mk A310
                clear A310
                by_cases c32 : t122 = true
                · subst c32
                  have H1 : (laws_FnExactBarLines.j1 kj7 l0 a1 t104 t105 t111 (t112 != t105)) = some r := by rw [if_pos rfl] at H; exact H
                  clear H
                  have H := H1
                  clear H1
                  have H' := Aside0.mk H
                  clear H
                  obtain ⟨Ao33, co33, eo33⟩ := Kd.R_slice HO_8.out
                  subst eo33
                  obtain ⟨Ao34, co34, eo34⟩ := Kd.R_slice HO_5.out
                  subst eo34
                  go_wp2_with (first | (go_at_call 19; (with_reducible refine (laws_eqStringS.calls kj7 _ _ t111 _ _ t104 true _ ?side1 ?side2 ?side3 ?side4 A31.out).mono ?_); (case side1 => repeat (first | exact (Kd.R_reads' HO_8.out).2.2 | (with_reducible refine Kd.C_alloc ?_ _) | (with_reducible refine Kd.C_drewN ?_ _) | (with_reducible refine Kd.C_drew ?_))); (case side2 => exact (Kd.R_reads' HO_8.out).2.1); (case side3 => repeat (first | exact (Kd.R_reads' HO_5.out).2.2 | (with_reducible refine Kd.C_alloc ?_ _) | (with_reducible refine Kd.C_drewN ?_ _) | (with_reducible refine Kd.C_drew ?_))); (case side4 => exact (Kd.R_reads' HO_5.out).2.1); rintro e w' ⟨rfl, ⟨nd, rfl⟩⟩))
                  go_meet
                  case rel => exact ⟨_, ((t112 != t105)), (by first | rfl | (simp; done) | (simp [*]; done)), H', ⟨by have := HJ7.out; first | omega | exact Nat.le_refl _⟩, ⟨by (with_reducible repeat (first | apply Kd.R_alloc | apply Kd.R_drewN | apply Kd.R_drew)); exact HO_5.out⟩, ⟨by (with_reducible repeat (first | apply Kd.R_alloc | apply Kd.R_drewN | apply Kd.R_drew)); exact HO_8.out⟩, ⟨by repeat (first | (with_reducible first | exact HB.out | apply below_alloc | apply pw_below_drewN | apply below_drew1) | exact HB.out)⟩⟩
                · replace c32 := Bool.eq_false_iff.mpr c32
                  subst c32
                  have H1 : (laws_FnExactBarLines.j1 kj7 l0 a1 t104 t105 t111 true) = some r := by rw [if_neg (show ¬ (false = true) by decide)] at H; exact H
                  clear H
                  have H := H1
                  clear H1
                  have H' := Aside0.mk H
                  clear H
                  obtain ⟨Ao35, co35, eo35⟩ := Kd.R_slice HO_8.out
                  subst eo35
                  obtain ⟨Ao36, co36, eo36⟩ := Kd.R_slice HO_5.out
                  subst eo36
                  go_wp2_with (first | (go_at_call 19; (with_reducible refine (laws_eqStringS.calls kj7 _ _ t111 _ _ t104 false _ ?side1 ?side2 ?side3 ?side4 A31.out).mono ?_); (case side1 => repeat (first | exact (Kd.R_reads' HO_8.out).2.2 | (with_reducible refine Kd.C_alloc ?_ _) | (with_reducible refine Kd.C_drewN ?_ _) | (with_reducible refine Kd.C_drew ?_))); (case side2 => exact (Kd.R_reads' HO_8.out).2.1); (case side3 => repeat (first | exact (Kd.R_reads' HO_5.out).2.2 | (with_reducible refine Kd.C_alloc ?_ _) | (with_reducible refine Kd.C_drewN ?_ _) | (with_reducible refine Kd.C_drew ?_))); (case side4 => exact (Kd.R_reads' HO_5.out).2.1); rintro e w' ⟨rfl, ⟨nd, rfl⟩⟩))
                  go_meet
                  case rel => exact ⟨_, (true), (by first | rfl | (simp; done) | (simp [*]; done)), H', ⟨by have := HJ7.out; first | omega | exact Nat.le_refl _⟩, ⟨by (with_reducible repeat (first | apply Kd.R_alloc | apply Kd.R_drewN | apply Kd.R_drew)); exact HO_5.out⟩, ⟨by (with_reducible repeat (first | apply Kd.R_alloc | apply Kd.R_drewN | apply Kd.R_drew)); exact HO_8.out⟩, ⟨by repeat (first | (with_reducible first | exact HB.out | apply below_alloc | apply pw_below_drewN | apply below_drew1) | exact HB.out)⟩⟩
            case rest =>
              clear HC26
              try clear c1
              try clear c2
              try clear p2
              try clear c3
              try clear c3b0
              try clear c3b1
              try clear c6
              try clear c16
              try clear c18
              try clear c19
              try clear c21
              try clear c24
              try clear c30
              try clear c30b0
              try clear c31
              try clear c32
              try clear p2
              obtain ⟨kq, x62_25, rfl, HA, HJ25, HO_5, HO_8, HB⟩ := hcut
              cases kq with
              | zero => exact absurd HA.out (by simp [laws_FnExactBarLines.j1])
              | succ kj25 =>
                have H := HA.out
                clear HA
                simp only [laws_FnExactBarLines.j1] at H
                by_cases c37 : x62_25 = true
                · subst c37
                  have H1 : (some false) = some r := by rw [if_pos rfl] at H; exact H
                  clear H
                  have H := H1
                  clear H1
                  obtain rfl := Option.some.inj H
                  go_wp2
                  go_ret
                  exact ⟨by first | rfl | (simp [errW_none, errW_some] <;> rfl) | (simp [*, errW_none, errW_some] <;> rfl), by repeat (first | (with_reducible first | exact HB.out | apply below_alloc | apply pw_below_drewN | apply below_drew1) | exact HB.out)⟩
                · replace c37 := Bool.eq_false_iff.mpr c37
                  subst c37
                  have H1 : ((laws_markStringS.f kj25 t111 1).bind fun bt123 => ((laws_heldStringS.f kj25 bt123.2 1).bind fun t125 => (if t125 < 0 then (some false) else (if t125 = bt123.1 then ((laws_toInt64S.f kj25 l0).bind fun t126 => ((impl_BarLines.f kj25 t126 a1).bind fun bt129 => ((laws_eqStringS.f kj25 bt129.1 t104).bind fun t133 => (if t133 = true then (laws_FnExactBarLines.j2 kj25 bt123.2 bt123.1 (bt129.2 != t105)) else (laws_FnExactBarLines.j2 kj25 bt123.2 bt123.1 true))))) else (some false))))) = some r := by rw [if_neg (show ¬ (false = true) by decide)] at H; exact H
                  clear H
                  have H := H1
                  clear H1
                  replace H := Option.bind_eq_some_iff.mp H
                  obtain ⟨⟨t123, t124⟩, A380, H⟩ := H
                  replace H : ((laws_heldStringS.f kj25 t124 1).bind fun t125 => (if t125 < 0 then (some false) else (if t125 = t123 then ((laws_toInt64S.f kj25 l0).bind fun t126 => ((impl_BarLines.f kj25 t126 a1).bind fun bt129 => ((laws_eqStringS.f kj25 bt129.1 t104).bind fun t133 => (if t133 = true then (laws_FnExactBarLines.j2 kj25 t124 t123 (bt129.2 != t105)) else (laws_FnExactBarLines.j2 kj25 t124 t123 true))))) else (some false)))) = some r := H
                  have A38 := Aside0.mk A380
                  clear A380
                  replace H := Option.bind_eq_some_iff.mp H
                  obtain ⟨t125, A390, H⟩ := H
                  replace H : (if t125 < 0 then (some false) else (if t125 = t123 then ((laws_toInt64S.f kj25 l0).bind fun t126 => ((impl_BarLines.f kj25 t126 a1).bind fun bt129 => ((laws_eqStringS.f kj25 bt129.1 t104).bind fun t133 => (if t133 = true then (laws_FnExactBarLines.j2 kj25 t124 t123 (bt129.2 != t105)) else (laws_FnExactBarLines.j2 kj25 t124 t123 true))))) else (some false))) = some r := H
                  have A39 := Aside0.mk A390
                  clear A390
                  by_cases c40 : t125 < 0
                  · rw [if_pos c40] at H
                    have c40b0 : decide (t125 < 0) = true := decide_eq_true c40
                    clear c40
                    obtain rfl := Option.some.inj H
                    obtain ⟨Ao41, co41, eo41⟩ := Kd.R_slice HO_8.out
                    subst eo41
                    go_wp2_with (first | ((with_reducible refine gate_callee (f := 20) rfl ?_); refine goesL_ (some 65) rfl rfl Try.func20 (by kernel_rfl) rfl #[.slice Ao41 t111.length co41, .int .i64 1] rfl (by (try simp only [List.map_toArray, List.map_cons, List.map_nil]); first | done | rfl | (simp only [List.length_drop, List.length_take]; rfl)) ?_; (with_reducible refine (laws_markStringS.calls kj25 (fun k_ => some k_ = (.slice Ao41 t111.length co41 : Value).ownBlock) (.slice Ao41 t111.length co41) t111 1 t123 t124 w _ ?side1 ?side2 A38.out).mono ?_); (case side1 => repeat (first | (with_reducible first | exact HB.out | apply below_alloc | apply pw_below_drewN | apply below_drew1) | exact HB.out)); (case side2 => exact Kd.R_tight rfl HO_8.out); rintro e w42 ⟨rfl, hy0, hb, hkp⟩; refine ⟨_, rfl, ?_⟩; have n0_ := Aside0.mk (Kd.R_mono (ok' := fun k_ => some k_ ≠ (.slice Ao41 t111.length co41 : Value).ownBlock) (Kd.R_keptB (HO_5.out) hkp (fun k_ hk_ hs_ => (hk_) hs_)) (fun k_ hk_ => hk_.1)); have n1_ := Aside0.mk (Kd.R_reok rfl hy0 (fun k_ e_ => HO_8.out.1 k_ e_)); have n2_ := Aside0.mk (hb); clear HO_5; clear HO_8; clear HB; have HO_5 := n0_; have HO_8 := n1_; have HB := n2_; clear n0_ n1_ n2_; (try clear hb); (try clear hkp); (try clear hy0)) | ((with_reducible refine gate_callee (f := 33) rfl ?_); refine goesL_ (some 68) rfl rfl Try.func33 (by kernel_rfl) rfl #[.slice Ao41 t124.length co41, .int .i64 1] rfl (by (try simp only [List.map_toArray, List.map_cons, List.map_nil]); first | done | (rw [show t124.length = t111.length from (Kd.R_reads' HO_8.out).1.symm] <;> rfl) | rfl | (simp only [List.length_drop, List.length_take]; rfl)) ?_; (with_reducible refine (laws_heldStringS.calls kj25 _ _ t124 1 t125 _ ?side1 ?side2 A39.out).mono ?_); (case side1 => repeat (first | exact (Kd.R_reads' HO_8.out).2.2 | (with_reducible refine Kd.C_alloc ?_ _) | (with_reducible refine Kd.C_drewN ?_ _) | (with_reducible refine Kd.C_drew ?_))); (case side2 => rw [show t124.length = t111.length from (Kd.R_reads' HO_8.out).1.symm]; exact (Kd.R_reads' HO_8.out).2.1); rintro e w43 ⟨rfl, hb⟩; refine ⟨_, rfl, ?_⟩; have n0_ := Aside0.mk (Kd.R_below (by (with_reducible repeat (first | apply Kd.R_alloc | apply Kd.R_drewN | apply Kd.R_drew)); exact HO_5.out) hb); have n1_ := Aside0.mk (Kd.R_below (by (with_reducible repeat (first | apply Kd.R_alloc | apply Kd.R_drewN | apply Kd.R_drew)); exact HO_8.out) hb); have n2_ := Aside0.mk (below_step (by repeat (first | (with_reducible first | exact HB.out | apply below_alloc | apply pw_below_drewN | apply below_drew1) | exact HB.out)) hb); clear HO_5; clear HO_8; clear HB; have HO_5 := n0_; have HO_8 := n1_; have HB := n2_; clear n0_ n1_ n2_; (try clear hb); (try clear hb2); (try clear hk); (try clear hi)))
                    go_ret
                    exact ⟨by first | rfl | (simp [errW_none, errW_some] <;> rfl) | (simp [*, errW_none, errW_some] <;> rfl), by repeat (first | (with_reducible first | exact HB.out | apply below_alloc | apply pw_below_drewN | apply below_drew1) | exact HB.out)⟩
                  · rw [if_neg c40] at H
                    have c40b0 : decide (t125 < 0) = false := decide_eq_false c40
                    clear c40
                    by_cases c44 : t125 = t123
                    · rw [if_pos c44] at H
                      have c44b0 : (t125 == t123) = true := beq_iff_eq.mpr c44
                      have c44b1 : (t125 != t123) = false := bne_eq_false_iff_eq.mpr c44
                      clear c44
                      replace H := Option.bind_eq_some_iff.mp H
                      obtain ⟨t126, A450, H⟩ := H
                      replace H : ((impl_BarLines.f kj25 t126 a1).bind fun bt129 => ((laws_eqStringS.f kj25 bt129.1 t104).bind fun t133 => (if t133 = true then (laws_FnExactBarLines.j2 kj25 t124 t123 (bt129.2 != t105)) else (laws_FnExactBarLines.j2 kj25 t124 t123 true)))) = some r := H
                      have A45 := Aside0.mk A450
                      clear A450
                      replace H := Option.bind_eq_some_iff.mp H
                      obtain ⟨⟨t129, t130⟩, A460, H⟩ := H
                      replace H : ((laws_eqStringS.f kj25 t129 t104).bind fun t133 => (if t133 = true then (laws_FnExactBarLines.j2 kj25 t124 t123 (t130 != t105)) else (laws_FnExactBarLines.j2 kj25 t124 t123 true))) = some r := H
                      have A46 := Aside0.mk A460
                      clear A460
                      have HC47 := Aside0.mk H
                      clear H
                      obtain ⟨Ao48, co48, eo48⟩ := Kd.R_slice HO_8.out
                      subst eo48
                      go_upto_region 23 with (first | ((with_reducible refine gate_callee (f := 20) rfl ?_); refine goesL_ (some 65) rfl rfl Try.func20 (by kernel_rfl) rfl #[.slice Ao48 t111.length co48, .int .i64 1] rfl (by (try simp only [List.map_toArray, List.map_cons, List.map_nil]); first | done | rfl | (simp only [List.length_drop, List.length_take]; rfl)) ?_; (with_reducible refine (laws_markStringS.calls kj25 (fun k_ => some k_ = (.slice Ao48 t111.length co48 : Value).ownBlock) (.slice Ao48 t111.length co48) t111 1 t123 t124 w _ ?side1 ?side2 A38.out).mono ?_); (case side1 => repeat (first | (with_reducible first | exact HB.out | apply below_alloc | apply pw_below_drewN | apply below_drew1) | exact HB.out)); (case side2 => exact Kd.R_tight rfl HO_8.out); rintro e w49 ⟨rfl, hy0, hb, hkp⟩; refine ⟨_, rfl, ?_⟩; have n0_ := Aside0.mk (Kd.R_mono (ok' := fun k_ => some k_ ≠ (.slice Ao48 t111.length co48 : Value).ownBlock) (Kd.R_keptB (HO_5.out) hkp (fun k_ hk_ hs_ => (hk_) hs_)) (fun k_ hk_ => hk_.1)); have n1_ := Aside0.mk (Kd.R_reok rfl hy0 (fun k_ e_ => HO_8.out.1 k_ e_)); have n2_ := Aside0.mk (hb); clear HO_5; clear HO_8; clear HB; have HO_5 := n0_; have HO_8 := n1_; have HB := n2_; clear n0_ n1_ n2_; (try clear hb); (try clear hkp); (try clear hy0)) | ((with_reducible refine gate_callee (f := 33) rfl ?_); refine goesL_ (some 68) rfl rfl Try.func33 (by kernel_rfl) rfl #[.slice Ao48 t124.length co48, .int .i64 1] rfl (by (try simp only [List.map_toArray, List.map_cons, List.map_nil]); first | done | (rw [show t124.length = t111.length from (Kd.R_reads' HO_8.out).1.symm] <;> rfl) | rfl | (simp only [List.length_drop, List.length_take]; rfl)) ?_; (with_reducible refine (laws_heldStringS.calls kj25 _ _ t124 1 t125 _ ?side1 ?side2 A39.out).mono ?_); (case side1 => repeat (first | exact (Kd.R_reads' HO_8.out).2.2 | (with_reducible refine Kd.C_alloc ?_ _) | (with_reducible refine Kd.C_drewN ?_ _) | (with_reducible refine Kd.C_drew ?_))); (case side2 => rw [show t124.length = t111.length from (Kd.R_reads' HO_8.out).1.symm]; exact (Kd.R_reads' HO_8.out).2.1); rintro e w50 ⟨rfl, hb⟩; refine ⟨_, rfl, ?_⟩; have n0_ := Aside0.mk (Kd.R_below (by (with_reducible repeat (first | apply Kd.R_alloc | apply Kd.R_drewN | apply Kd.R_drew)); exact HO_5.out) hb); have n1_ := Aside0.mk (Kd.R_below (by (with_reducible repeat (first | apply Kd.R_alloc | apply Kd.R_drewN | apply Kd.R_drew)); exact HO_8.out) hb); have n2_ := Aside0.mk (below_step (by repeat (first | (with_reducible first | exact HB.out | apply below_alloc | apply pw_below_drewN | apply below_drew1) | exact HB.out)) hb); clear HO_5; clear HO_8; clear HB; have HO_5 := n0_; have HO_8 := n1_; have HB := n2_; clear n0_ n1_ n2_; (try clear hb); (try clear hb2); (try clear hk); (try clear hi)) | ((with_reducible refine gate_callee (f := 31) rfl ?_); refine goesL_ (some 76) rfl rfl Try.func31 (by kernel_rfl) rfl #[.slice A0 l0.length c0] rfl (by (try simp only [List.map_toArray, List.map_cons, List.map_nil]); first | done | rfl | (simp only [List.length_drop, List.length_take]; rfl)) ?_; (with_reducible refine (laws_toInt64S.calls kj25 _ _ l0 t126 _ ?side1 ?side2 A45.out).mono ?_); (case side1 => repeat (first | exact (Kd.C_below HR0.out HB.out) | (with_reducible refine Kd.C_alloc ?_ _) | (with_reducible refine Kd.C_drewN ?_ _) | (with_reducible refine Kd.C_drew ?_))); (case side2 => exact HC0.out); rintro e w51 ⟨v127, rfl, ho0, hb⟩; refine ⟨_, rfl, ?_⟩; have n0_ := Aside0.mk (Kd.R_below (by (with_reducible repeat (first | apply Kd.R_alloc | apply Kd.R_drewN | apply Kd.R_drew)); exact HO_5.out) hb); have n1_ := Aside0.mk (Kd.R_below (by (with_reducible repeat (first | apply Kd.R_alloc | apply Kd.R_drewN | apply Kd.R_drew)); exact HO_8.out) hb); have n2_ := Aside0.mk (Kd.R_lower ho0 (below_size (by repeat (first | (with_reducible first | exact HB.out | apply below_alloc | apply pw_below_drewN | apply below_drew1) | exact HB.out)))); have n3_ := Aside0.mk (below_step (by repeat (first | (with_reducible first | exact HB.out | apply below_alloc | apply pw_below_drewN | apply below_drew1) | exact HB.out)) hb); clear HO_5; clear HO_8; clear HB; have HO_5 := n0_; have HO_8 := n1_; have HO128 := n2_; have HB := n3_; clear n0_ n1_ n2_ n3_; (try clear hb); (try clear hb2); (try clear hk); (try clear hi); (try clear ho0); obtain ⟨Ao52, co52, eo52⟩ := Kd.R_slice HO128.out; subst eo52) | ((with_reducible refine gate_callee (f := 32) rfl ?_); refine goesL_ (some 78) rfl rfl Try.func32 (by kernel_rfl) rfl #[.slice Ao52 t126.length co52, .int .i64 a1] rfl (by (try simp only [List.map_toArray, List.map_cons, List.map_nil]); first | done | rfl | (simp only [List.length_drop, List.length_take]; rfl)) ?_; (with_reducible refine (impl_BarLines.calls kj25 _ _ t126 a1 t129 t130 _ ?side1 ?side2 A46.out).mono ?_); (case side1 => repeat (first | exact (Kd.R_reads' HO128.out).2.2 | (with_reducible refine Kd.C_alloc ?_ _) | (with_reducible refine Kd.C_drewN ?_ _) | (with_reducible refine Kd.C_drew ?_))); (case side2 => exact (Kd.R_reads' HO128.out).2.1); rintro e w53 ⟨v131, rfl, ho0, hb⟩; refine ⟨_, rfl, ?_⟩; have n0_ := Aside0.mk (Kd.R_elder' (by (with_reducible repeat (first | apply Kd.R_alloc | apply Kd.R_drewN | apply Kd.R_drew)); exact HO_5.out) (Kd.R_base ho0) hb); have n1_ := Aside0.mk (Kd.R_elder' (by (with_reducible repeat (first | apply Kd.R_alloc | apply Kd.R_drewN | apply Kd.R_drew)); exact HO_8.out) (Kd.R_base ho0) hb); have n2_ := Aside0.mk (Kd.R_below (by (with_reducible repeat (first | apply Kd.R_alloc | apply Kd.R_drewN | apply Kd.R_drew)); exact HO128.out) hb); have n3_ := Aside0.mk (Kd.R_lower (Kd.R_new' (Kd.R_new' ho0 (Kd.R_lt (by (with_reducible repeat (first | apply Kd.R_alloc | apply Kd.R_drewN | apply Kd.R_drew)); exact HO_5.out))) (Kd.R_lt (by (with_reducible repeat (first | apply Kd.R_alloc | apply Kd.R_drewN | apply Kd.R_drew)); exact HO_8.out))) (below_size (by repeat (first | (with_reducible first | exact HB.out | apply below_alloc | apply pw_below_drewN | apply below_drew1) | exact HB.out)))); have n4_ := Aside0.mk (below_step (by repeat (first | (with_reducible first | exact HB.out | apply below_alloc | apply pw_below_drewN | apply below_drew1) | exact HB.out)) hb); clear HO_5; clear HO_8; clear HO128; clear HB; have HO_5 := n0_; have HO_8 := n1_; have HO128 := n2_; have HO132 := n3_; have HB := n4_; clear n0_ n1_ n2_ n3_ n4_; (try clear hb); (try clear hb2); (try clear hk); (try clear hi); (try clear ho0)))
                      (try simp only [Act.put, List.setIfInBounds_toArray, List.set_cons_zero, List.set_cons_succ])
                      go_cut [89] (fun v89 wc => ∃ (kq : Nat) (x89_46 : Bool), v89 = .bool x89_46 ∧ Aside0 (laws_FnExactBarLines.j2 kq t124 t123 x89_46 = some r) ∧ Aside0 (kq ≤ kj25) ∧ Aside0 (Kd.R Kd.string 9 wc w.heap.size (fun _ => True) (.slice Ao48 t111.length co48) t124) ∧ Aside0 (Below w.heap.size w wc))
                      case first =>
                        have H := HC47.out
                        clear HC47
                        replace H := Option.bind_eq_some_iff.mp H
                        obtain ⟨t133, A540, H⟩ := H
                        replace H : (if t133 = true then (laws_FnExactBarLines.j2 kj25 t124 t123 (t130 != t105)) else (laws_FnExactBarLines.j2 kj25 t124 t123 true)) = some r := H
                        have A54 := Aside0.mk A540
                        clear A540
                        by_cases c55 : t133 = true
                        · subst c55
                          have H1 : (laws_FnExactBarLines.j2 kj25 t124 t123 (t130 != t105)) = some r := by rw [if_pos rfl] at H; exact H
                          clear H
                          have H := H1
                          clear H1
                          have H' := Aside0.mk H
                          clear H
                          obtain ⟨Ao56, co56, eo56⟩ := Kd.R_slice HO132.out
                          subst eo56
                          obtain ⟨Ao57, co57, eo57⟩ := Kd.R_slice HO_5.out
                          subst eo57
                          go_wp2_with (first | ((with_reducible refine gate_callee (f := 19) rfl ?_); refine goesL_ (some 83) rfl rfl Try.func19 (by kernel_rfl) rfl #[.slice Ao56 t129.length co56, .slice Ao57 t104.length co57] rfl (by (try simp only [List.map_toArray, List.map_cons, List.map_nil]); first | done | rfl | (simp only [List.length_drop, List.length_take]; rfl)) ?_; (with_reducible refine (laws_eqStringS.calls kj25 _ _ t129 _ _ t104 true _ ?side1 ?side2 ?side3 ?side4 A54.out).mono ?_); (case side1 => repeat (first | exact (Kd.R_reads' HO132.out).2.2 | (with_reducible refine Kd.C_alloc ?_ _) | (with_reducible refine Kd.C_drewN ?_ _) | (with_reducible refine Kd.C_drew ?_))); (case side2 => exact (Kd.R_reads' HO132.out).2.1); (case side3 => repeat (first | exact (Kd.R_reads' HO_5.out).2.2 | (with_reducible refine Kd.C_alloc ?_ _) | (with_reducible refine Kd.C_drewN ?_ _) | (with_reducible refine Kd.C_drew ?_))); (case side4 => exact (Kd.R_reads' HO_5.out).2.1); rintro e w' ⟨rfl, ⟨nd, rfl⟩⟩; refine ⟨_, rfl, ?_⟩))
                          go_meet
                          case rel => exact ⟨_, ((t130 != t105)), (by first | rfl | (simp; done) | (simp [*]; done)), H', ⟨by have := HJ7.out; have := HJ25.out; first | omega | exact Nat.le_refl _⟩, ⟨by (with_reducible repeat (first | apply Kd.R_alloc | apply Kd.R_drewN | apply Kd.R_drew)); exact Kd.R_mono HO_8.out (fun _ hk => trivial)⟩, ⟨by repeat (first | (with_reducible first | exact HB.out | apply below_alloc | apply pw_below_drewN | apply below_drew1) | exact HB.out)⟩⟩
                        · replace c55 := Bool.eq_false_iff.mpr c55
                          subst c55
                          have H1 : (laws_FnExactBarLines.j2 kj25 t124 t123 true) = some r := by rw [if_neg (show ¬ (false = true) by decide)] at H; exact H
                          clear H
                          have H := H1
                          clear H1
                          have H' := Aside0.mk H
                          clear H
                          obtain ⟨Ao58, co58, eo58⟩ := Kd.R_slice HO132.out
                          subst eo58
                          obtain ⟨Ao59, co59, eo59⟩ := Kd.R_slice HO_5.out
                          subst eo59
                          go_wp2_with (first | ((with_reducible refine gate_callee (f := 19) rfl ?_); refine goesL_ (some 83) rfl rfl Try.func19 (by kernel_rfl) rfl #[.slice Ao58 t129.length co58, .slice Ao59 t104.length co59] rfl (by (try simp only [List.map_toArray, List.map_cons, List.map_nil]); first | done | rfl | (simp only [List.length_drop, List.length_take]; rfl)) ?_; (with_reducible refine (laws_eqStringS.calls kj25 _ _ t129 _ _ t104 false _ ?side1 ?side2 ?side3 ?side4 A54.out).mono ?_); (case side1 => repeat (first | exact (Kd.R_reads' HO132.out).2.2 | (with_reducible refine Kd.C_alloc ?_ _) | (with_reducible refine Kd.C_drewN ?_ _) | (with_reducible refine Kd.C_drew ?_))); (case side2 => exact (Kd.R_reads' HO132.out).2.1); (case side3 => repeat (first | exact (Kd.R_reads' HO_5.out).2.2 | (with_reducible refine Kd.C_alloc ?_ _) | (with_reducible refine Kd.C_drewN ?_ _) | (with_reducible refine Kd.C_drew ?_))); (case side4 => exact (Kd.R_reads' HO_5.out).2.1); rintro e w' ⟨rfl, ⟨nd, rfl⟩⟩; refine ⟨_, rfl, ?_⟩))
                          go_meet
                          case rel => exact ⟨_, (true), (by first | rfl | (simp; done) | (simp [*]; done)), H', ⟨by have := HJ7.out; have := HJ25.out; first | omega | exact Nat.le_refl _⟩, ⟨by (with_reducible repeat (first | apply Kd.R_alloc | apply Kd.R_drewN | apply Kd.R_drew)); exact Kd.R_mono HO_8.out (fun _ hk => trivial)⟩, ⟨by repeat (first | (with_reducible first | exact HB.out | apply below_alloc | apply pw_below_drewN | apply below_drew1) | exact HB.out)⟩⟩
                      case rest =>
                        clear HC47
                        try clear c1
                        try clear c2
                        try clear p2
                        try clear c3
                        try clear c3b0
                        try clear c3b1
                        try clear c4
                        try clear c5
                        try clear c6
                        try clear c16
                        try clear c18
                        try clear c19
                        try clear c20
                        try clear c21
                        try clear c24
                        try clear c30
                        try clear c30b0
                        try clear c31
                        try clear c32
                        try clear c33
                        try clear c37
                        try clear c40
                        try clear c40b0
                        try clear c44
                        try clear c44b0
                        try clear c44b1
                        try clear c55
                        try clear p2
                        obtain ⟨kq, x89_46, rfl, HA, HJ46, HO_8, HB⟩ := hcut
                        have hl8_46 := (Kd.R_reads' HO_8.out).1
                        rw [hl8_46] at HO_8
                        (try simp only [hl8_46])
                        cases kq with
                        | zero => exact absurd HA.out (by simp [laws_FnExactBarLines.j2])
                        | succ kj46 =>
                          have H := HA.out
                          clear HA
                          simp only [laws_FnExactBarLines.j2] at H
                          by_cases c60 : x89_46 = true
                          · subst c60
                            have H1 : (some false) = some r := by rw [if_pos rfl] at H; exact H
                            clear H
                            have H := H1
                            clear H1
                            obtain rfl := Option.some.inj H
                            go_wp2
                            go_ret
                            exact ⟨by first | rfl | (simp [errW_none, errW_some] <;> rfl) | (simp [*, errW_none, errW_some] <;> rfl), by repeat (first | (with_reducible first | exact HB.out | apply below_alloc | apply pw_below_drewN | apply below_drew1) | exact HB.out)⟩
                          · replace c60 := Bool.eq_false_iff.mpr c60
                            subst c60
                            have H1 : ((laws_heldStringS.f kj46 t124 1).bind fun t134 => (if t134 < 0 then (some false) else (if t134 = t123 then (some true) else (some false)))) = some r := by rw [if_neg (show ¬ (false = true) by decide)] at H; exact H
                            clear H
                            have H := H1
                            clear H1
                            replace H := Option.bind_eq_some_iff.mp H
                            obtain ⟨t134, A610, H⟩ := H
                            replace H : (if t134 < 0 then (some false) else (if t134 = t123 then (some true) else (some false))) = some r := H
                            have A61 := Aside0.mk A610
                            clear A610
                            by_cases c62 : t134 < 0
                            · rw [if_pos c62] at H
                              have c62b0 : decide (t134 < 0) = true := decide_eq_true c62
                              clear c62
                              obtain rfl := Option.some.inj H
                              go_wp2_with (first | ((with_reducible refine gate_callee (f := 33) rfl ?_); refine goesL_ (some 92) rfl rfl Try.func33 (by kernel_rfl) rfl #[.slice Ao48 t124.length co48, .int .i64 1] rfl (by (try simp only [List.map_toArray, List.map_cons, List.map_nil]); first | done | rfl | (simp only [List.length_drop, List.length_take]; rfl)) ?_; (with_reducible refine (laws_heldStringS.calls kj46 _ _ t124 1 t134 _ ?side1 ?side2 A61.out).mono ?_); (case side1 => repeat (first | exact (Kd.R_reads' HO_8.out).2.2 | (with_reducible refine Kd.C_alloc ?_ _) | (with_reducible refine Kd.C_drewN ?_ _) | (with_reducible refine Kd.C_drew ?_))); (case side2 => exact (Kd.R_reads' HO_8.out).2.1); rintro e w63 ⟨rfl, hb⟩; refine ⟨_, rfl, ?_⟩; have n0_ := Aside0.mk (Kd.R_below (by (with_reducible repeat (first | apply Kd.R_alloc | apply Kd.R_drewN | apply Kd.R_drew)); exact HO_8.out) hb); have n1_ := Aside0.mk (below_step (by repeat (first | (with_reducible first | exact HB.out | apply below_alloc | apply pw_below_drewN | apply below_drew1) | exact HB.out)) hb); clear HO_8; clear HB; have HO_8 := n0_; have HB := n1_; clear n0_ n1_; (try clear hb); (try clear hb2); (try clear hk); (try clear hi)))
                              go_ret
                              exact ⟨by first | rfl | (simp [errW_none, errW_some] <;> rfl) | (simp [*, errW_none, errW_some] <;> rfl), by repeat (first | (with_reducible first | exact HB.out | apply below_alloc | apply pw_below_drewN | apply below_drew1) | exact HB.out)⟩
                            · rw [if_neg c62] at H
                              have c62b0 : decide (t134 < 0) = false := decide_eq_false c62
                              clear c62
                              by_cases c64 : t134 = t123
                              · rw [if_pos c64] at H
                                have c64b0 : (t134 == t123) = true := beq_iff_eq.mpr c64
                                have c64b1 : (t134 != t123) = false := bne_eq_false_iff_eq.mpr c64
                                clear c64
                                obtain rfl := Option.some.inj H
                                go_wp2_with (first | ((with_reducible refine gate_callee (f := 33) rfl ?_); refine goesL_ (some 92) rfl rfl Try.func33 (by kernel_rfl) rfl #[.slice Ao48 t124.length co48, .int .i64 1] rfl (by (try simp only [List.map_toArray, List.map_cons, List.map_nil]); first | done | rfl | (simp only [List.length_drop, List.length_take]; rfl)) ?_; (with_reducible refine (laws_heldStringS.calls kj46 _ _ t124 1 t134 _ ?side1 ?side2 A61.out).mono ?_); (case side1 => repeat (first | exact (Kd.R_reads' HO_8.out).2.2 | (with_reducible refine Kd.C_alloc ?_ _) | (with_reducible refine Kd.C_drewN ?_ _) | (with_reducible refine Kd.C_drew ?_))); (case side2 => exact (Kd.R_reads' HO_8.out).2.1); rintro e w65 ⟨rfl, hb⟩; refine ⟨_, rfl, ?_⟩; have n0_ := Aside0.mk (Kd.R_below (by (with_reducible repeat (first | apply Kd.R_alloc | apply Kd.R_drewN | apply Kd.R_drew)); exact HO_8.out) hb); have n1_ := Aside0.mk (below_step (by repeat (first | (with_reducible first | exact HB.out | apply below_alloc | apply pw_below_drewN | apply below_drew1) | exact HB.out)) hb); clear HO_8; clear HB; have HO_8 := n0_; have HB := n1_; clear n0_ n1_; (try clear hb); (try clear hb2); (try clear hk); (try clear hi)))
                                go_ret
                                exact ⟨by first | rfl | (simp [errW_none, errW_some] <;> rfl) | (simp [*, errW_none, errW_some] <;> rfl), by repeat (first | (with_reducible first | exact HB.out | apply below_alloc | apply pw_below_drewN | apply below_drew1) | exact HB.out)⟩
                              · rw [if_neg c64] at H
                                have c64b0 : (t134 == t123) = false := beq_eq_false_iff_ne.mpr c64
                                have c64b1 : (t134 != t123) = true := bne_iff_ne.mpr c64
                                obtain rfl := Option.some.inj H
                                go_wp2_with (first | ((with_reducible refine gate_callee (f := 33) rfl ?_); refine goesL_ (some 92) rfl rfl Try.func33 (by kernel_rfl) rfl #[.slice Ao48 t124.length co48, .int .i64 1] rfl (by (try simp only [List.map_toArray, List.map_cons, List.map_nil]); first | done | rfl | (simp only [List.length_drop, List.length_take]; rfl)) ?_; (with_reducible refine (laws_heldStringS.calls kj46 _ _ t124 1 t134 _ ?side1 ?side2 A61.out).mono ?_); (case side1 => repeat (first | exact (Kd.R_reads' HO_8.out).2.2 | (with_reducible refine Kd.C_alloc ?_ _) | (with_reducible refine Kd.C_drewN ?_ _) | (with_reducible refine Kd.C_drew ?_))); (case side2 => exact (Kd.R_reads' HO_8.out).2.1); rintro e w66 ⟨rfl, hb⟩; refine ⟨_, rfl, ?_⟩; have n0_ := Aside0.mk (Kd.R_below (by (with_reducible repeat (first | apply Kd.R_alloc | apply Kd.R_drewN | apply Kd.R_drew)); exact HO_8.out) hb); have n1_ := Aside0.mk (below_step (by repeat (first | (with_reducible first | exact HB.out | apply below_alloc | apply pw_below_drewN | apply below_drew1) | exact HB.out)) hb); clear HO_8; clear HB; have HO_8 := n0_; have HB := n1_; clear n0_ n1_; (try clear hb); (try clear hb2); (try clear hk); (try clear hi)))
                                go_ret
                                exact ⟨by first | rfl | (simp [errW_none, errW_some] <;> rfl) | (simp [*, errW_none, errW_some] <;> rfl), by repeat (first | (with_reducible first | exact HB.out | apply below_alloc | apply pw_below_drewN | apply below_drew1) | exact HB.out)⟩
                    · rw [if_neg c44] at H
                      have c44b0 : (t125 == t123) = false := beq_eq_false_iff_ne.mpr c44
                      have c44b1 : (t125 != t123) = true := bne_iff_ne.mpr c44
                      obtain rfl := Option.some.inj H
                      obtain ⟨Ao67, co67, eo67⟩ := Kd.R_slice HO_8.out
                      subst eo67
                      go_wp2_with (first | ((with_reducible refine gate_callee (f := 20) rfl ?_); refine goesL_ (some 65) rfl rfl Try.func20 (by kernel_rfl) rfl #[.slice Ao67 t111.length co67, .int .i64 1] rfl (by (try simp only [List.map_toArray, List.map_cons, List.map_nil]); first | done | rfl | (simp only [List.length_drop, List.length_take]; rfl)) ?_; (with_reducible refine (laws_markStringS.calls kj25 (fun k_ => some k_ = (.slice Ao67 t111.length co67 : Value).ownBlock) (.slice Ao67 t111.length co67) t111 1 t123 t124 w _ ?side1 ?side2 A38.out).mono ?_); (case side1 => repeat (first | (with_reducible first | exact HB.out | apply below_alloc | apply pw_below_drewN | apply below_drew1) | exact HB.out)); (case side2 => exact Kd.R_tight rfl HO_8.out); rintro e w68 ⟨rfl, hy0, hb, hkp⟩; refine ⟨_, rfl, ?_⟩; have n0_ := Aside0.mk (Kd.R_mono (ok' := fun k_ => some k_ ≠ (.slice Ao67 t111.length co67 : Value).ownBlock) (Kd.R_keptB (HO_5.out) hkp (fun k_ hk_ hs_ => (hk_) hs_)) (fun k_ hk_ => hk_.1)); have n1_ := Aside0.mk (Kd.R_reok rfl hy0 (fun k_ e_ => HO_8.out.1 k_ e_)); have n2_ := Aside0.mk (hb); clear HO_5; clear HO_8; clear HB; have HO_5 := n0_; have HO_8 := n1_; have HB := n2_; clear n0_ n1_ n2_; (try clear hb); (try clear hkp); (try clear hy0)) | ((with_reducible refine gate_callee (f := 33) rfl ?_); refine goesL_ (some 68) rfl rfl Try.func33 (by kernel_rfl) rfl #[.slice Ao67 t124.length co67, .int .i64 1] rfl (by (try simp only [List.map_toArray, List.map_cons, List.map_nil]); first | done | (rw [show t124.length = t111.length from (Kd.R_reads' HO_8.out).1.symm] <;> rfl) | rfl | (simp only [List.length_drop, List.length_take]; rfl)) ?_; (with_reducible refine (laws_heldStringS.calls kj25 _ _ t124 1 t125 _ ?side1 ?side2 A39.out).mono ?_); (case side1 => repeat (first | exact (Kd.R_reads' HO_8.out).2.2 | (with_reducible refine Kd.C_alloc ?_ _) | (with_reducible refine Kd.C_drewN ?_ _) | (with_reducible refine Kd.C_drew ?_))); (case side2 => rw [show t124.length = t111.length from (Kd.R_reads' HO_8.out).1.symm]; exact (Kd.R_reads' HO_8.out).2.1); rintro e w69 ⟨rfl, hb⟩; refine ⟨_, rfl, ?_⟩; have n0_ := Aside0.mk (Kd.R_below (by (with_reducible repeat (first | apply Kd.R_alloc | apply Kd.R_drewN | apply Kd.R_drew)); exact HO_5.out) hb); have n1_ := Aside0.mk (Kd.R_below (by (with_reducible repeat (first | apply Kd.R_alloc | apply Kd.R_drewN | apply Kd.R_drew)); exact HO_8.out) hb); have n2_ := Aside0.mk (below_step (by repeat (first | (with_reducible first | exact HB.out | apply below_alloc | apply pw_below_drewN | apply below_drew1) | exact HB.out)) hb); clear HO_5; clear HO_8; clear HB; have HO_5 := n0_; have HO_8 := n1_; have HB := n2_; clear n0_ n1_ n2_; (try clear hb); (try clear hb2); (try clear hk); (try clear hi)))
                      go_ret
                      exact ⟨by first | rfl | (simp [errW_none, errW_some] <;> rfl) | (simp [*, errW_none, errW_some] <;> rfl), by repeat (first | (with_reducible first | exact HB.out | apply below_alloc | apply pw_below_drewN | apply below_drew1) | exact HB.out)⟩
          · replace c24 := Bool.eq_false_iff.mpr c24
            subst c24
            have H1 : (some false) = some r := by rw [if_neg (show ¬ (false = true) by decide)] at H; exact H
            clear H
            have H := H1
            clear H1
            obtain rfl := Option.some.inj H
            go_wp2_with (first | ((with_reducible refine gate_callee (f := 31) rfl ?_); refine goesL_ (some 44) rfl rfl Try.func31 (by kernel_rfl) rfl #[.slice A0 l0.length c0] rfl (by (try simp only [List.map_toArray, List.map_cons, List.map_nil]); first | done | rfl | (simp only [List.length_drop, List.length_take]; rfl)) ?_; (with_reducible refine (laws_toInt64S.calls kj7 _ _ l0 t116 _ ?side1 ?side2 A22.out).mono ?_); (case side1 => repeat (first | exact (Kd.C_below HR0.out HB.out) | (with_reducible refine Kd.C_alloc ?_ _) | (with_reducible refine Kd.C_drewN ?_ _) | (with_reducible refine Kd.C_drew ?_))); (case side2 => exact HC0.out); rintro e w70 ⟨v117, rfl, ho0, hb⟩; refine ⟨_, rfl, ?_⟩; have n0_ := Aside0.mk (Kd.R_below (by (with_reducible repeat (first | apply Kd.R_alloc | apply Kd.R_drewN | apply Kd.R_drew)); exact HO_5.out) hb); have n1_ := Aside0.mk (Kd.R_elder' (by (with_reducible repeat (first | apply Kd.R_alloc | apply Kd.R_drewN | apply Kd.R_drew)); exact HO_7.out) (Kd.R_base ho0) hb); have n2_ := Aside0.mk (Kd.R_below (by (with_reducible repeat (first | apply Kd.R_alloc | apply Kd.R_drewN | apply Kd.R_drew)); exact HO_8.out) hb); have n3_ := Aside0.mk (Kd.R_lower (Kd.R_new' ho0 (Kd.R_lt (by (with_reducible repeat (first | apply Kd.R_alloc | apply Kd.R_drewN | apply Kd.R_drew)); exact HO_7.out))) (below_size (by repeat (first | (with_reducible first | exact HB.out | apply below_alloc | apply pw_below_drewN | apply below_drew1) | exact HB.out)))); have n4_ := Aside0.mk (below_step (by repeat (first | (with_reducible first | exact HB.out | apply below_alloc | apply pw_below_drewN | apply below_drew1) | exact HB.out)) hb); clear HO_5; clear HO_7; clear HO_8; clear HB; have HO_5 := n0_; have HO_7 := n1_; have HO_8 := n2_; have HO118 := n3_; have HB := n4_; clear n0_ n1_ n2_ n3_ n4_; (try clear hb); (try clear hb2); (try clear hk); (try clear hi); (try clear ho0); obtain ⟨Ao71, co71, eo71⟩ := Kd.R_slice HO118.out; subst eo71) | ((with_reducible refine gate_callee (f := 18) rfl ?_); refine goesL_ (some 45) rfl rfl Try.func18 (by kernel_rfl) rfl #[.slice Ao13 t108.length co13, .slice Ao71 t116.length co71] rfl (by (try simp only [List.map_toArray, List.map_cons, List.map_nil]); first | done | rfl | (simp only [List.length_drop, List.length_take]; rfl)) ?_; (with_reducible refine (laws_eqInt64S.calls kj7 _ _ t108 _ _ t116 false _ ?side1 ?side2 ?side3 ?side4 A23.out).mono ?_); (case side1 => repeat (first | exact (Kd.R_reads' HO_7.out).2.2 | (with_reducible refine Kd.C_alloc ?_ _) | (with_reducible refine Kd.C_drewN ?_ _) | (with_reducible refine Kd.C_drew ?_))); (case side2 => exact (Kd.R_reads' HO_7.out).2.1); (case side3 => repeat (first | exact (Kd.R_reads' HO118.out).2.2 | (with_reducible refine Kd.C_alloc ?_ _) | (with_reducible refine Kd.C_drewN ?_ _) | (with_reducible refine Kd.C_drew ?_))); (case side4 => exact (Kd.R_reads' HO118.out).2.1); rintro e w' ⟨rfl, ⟨nd, rfl⟩⟩; refine ⟨_, rfl, ?_⟩))
            go_ret
            exact ⟨by first | rfl | (simp [errW_none, errW_some] <;> rfl) | (simp [*, errW_none, errW_some] <;> rfl), by repeat (first | (with_reducible first | exact HB.out | apply below_alloc | apply pw_below_drewN | apply below_drew1) | exact HB.out)⟩

/-- THE ONE PURE STATEMENT of laws_FnExactBarLines: yours. -/
def laws_FnExactBarLines.Pure : Prop := ∀ (l0 : List Int) (a1 : Int), l0.length ≤ maxLen → l0.length * 8 ≤ 140737488351232 → (∀ x ∈ l0, (Lit.int .i64 x).wf = true) → (Lit.int .i64 a1).wf = true → ∃ k, laws_FnExactBarLines.f k l0 a1 = some true
theorem laws_FnExactBarLines.walk (P : laws_FnExactBarLines.Pure) (a0 : Option Addr) (len0 cap0 : Nat) (z0 : List Int) (a1 : Int) (w : World) (w0 : (a0 = none ∧ len0 = 0 ∧ cap0 = 0 ∧ z0 = []) ∨ ∃ x, a0 = some x ∧ len0 ≤ cap0 ∧ cap0 ≤ maxLen ∧ z0.length = cap0 ∧ (∀ i, i < z0.length → w.cell? (x.add i) = some (.int .i64 (z0.getD i 0))) ∧ ∀ n ∈ z0, (Lit.int .i64 n).wf = true) (y0 : len0 * 8 ≤ 140737488351232) (w1 : (Lit.int .i64 a1).wf = true) :
    Calls Try.prog 6 #[.slice a0 len0 cap0, .int .i64 a1] w fun e w' => e = .returned (.bool true) ∧ Below w.heap.size w w' := by
  obtain ⟨l0, rfl, hr0, hm0, hw0, hc0⟩ := ReadsInt.ofRowC w0
  obtain ⟨k, h⟩ := P l0 a1 hm0 y0 hw0 w1
  refine (laws_FnExactBarLines.calls k _ _ l0 a1 true w (Kd.C_of_reads (d := (0 : Int)) (h1 := fun _ => rfl) hr0) hc0 h).mono ?_
  rintro e w' ⟨rfl, hd⟩
  exact ⟨rfl, hd⟩

end Go.Proofs.Ytpdggpfobbkdnaa.A
namespace Go.Proofs.Ytpdggpfobbkdnaa.A
open Go.RowKit Go.Proofs.YtpdggpfobbkdnaaW.PrintWords Go.Proofs.YtpdggpfobbkdnaaW.PrintLast Go.Proofs.Ytpdggpfobbkdnaa.A
def laws_FnExactBarLines.PureS : Prop := ∀ (l0 : List Int) (a1 : Int), (l0.length ≤ maxLen ∧ ∀ z ∈ l0, (Lit.int .i64 z).wf = true) → (Lit.int .i64 a1).wf = true → ∃ k, laws_FnExactBarLines.f k l0 a1 = some true
end Go.Proofs.Ytpdggpfobbkdnaa.A
namespace Go.Proofs.Ytpdggpfobbkdnaa.A
open Go.RowKit Go.Proofs.YtpdggpfobbkdnaaW.PrintWords Go.Proofs.YtpdggpfobbkdnaaW.PrintLast Go.Proofs.YtpdggpfobbkdnaaW.PrintMore
attribute [local go_sem] max2_int min2_int max_two min_two max_three min_three max_four min_four   -- for this text's walks alone
set_option linter.unusedVariables false
set_option linter.unusedSimpArgs false

/-! ### laws_heldInt64S: function 22 -/
def laws_heldInt64S.l0 : Nat → List Int → Int → Int → Option (Int)
  | 0, _, _, _ => none
  | k + 1, x0, x1, x5 => if x5 < (x0.length : Int) then (if 0 ≤ x5 then (if (rd x0 x5) = x1 then (laws_heldInt64S.l0 k x0 (wrap64 (x1 + 1)) (wrap64 (x5 + 1))) else (some (-1))) else (none)) else (some x1)
def laws_heldInt64S.f (k : Nat) (l0 : List Int) (a1 : Int) : Option (Int) := laws_heldInt64S.l0 k l0 a1 0
theorem laws_heldInt64S.mono_l : ∀ k, (∀ y0 y1 y2, LeO (laws_heldInt64S.l0 k y0 y1 y2) (laws_heldInt64S.l0 (k + 1) y0 y1 y2))
  | 0 => fun _ _ _ r h => by simp [laws_heldInt64S.l0] at h
  | k + 1 => by
    have ih0 := laws_heldInt64S.mono_l k
    · intro y0 y1 y2
      unfold laws_heldInt64S.l0
      repeat' first
      | (with_reducible exact ih0 _ _ _)
      | (with_reducible exact LeO.refl _)
      | (with_reducible exact LeO.none _)
      | (with_reducible refine LeO.ite ?_ ?_)
      | (with_reducible refine LeO.bind ?_ (fun _ => ?_))
      | exact ih0 _ _ _
      | exact LeO.none _
      | refine LeO.ite ?_ ?_
      | refine LeO.bind ?_ (fun _ => ?_)
theorem laws_heldInt64S.mono : ∀ a0 a1 k, LeO (laws_heldInt64S.f k a0 a1) (laws_heldInt64S.f (k + 1) a0 a1) := by
  intro a0 a1 k
  have ih0 := laws_heldInt64S.mono_l k
  unfold laws_heldInt64S.f
  repeat' first
      | (with_reducible exact ih0 _ _ _)
      | (with_reducible exact LeO.refl _)
      | (with_reducible exact LeO.none _)
      | (with_reducible refine LeO.ite ?_ ?_)
      | (with_reducible refine LeO.bind ?_ (fun _ => ?_))
      | exact ih0 _ _ _
      | exact LeO.none _
      | refine LeO.ite ?_ ?_
      | refine LeO.bind ?_ (fun _ => ?_)
set_option maxHeartbeats 8000000 in
set_option maxRecDepth 100000 in
theorem laws_heldInt64S.calls (k : Nat) (A0 : Option Addr) (c0 : Nat) (l0 : List Int) (a1 : Int) (r : Int) (w : World) (hr0 : Kd.C (Kd.int .i64) w A0 l0.length l0) (hc0 : l0.length ≤ c0) (h : laws_heldInt64S.f k l0 a1 = some r) :
    Calls Try.prog 22 #[.slice A0 l0.length c0, .int .i64 a1] w fun e w' => e = .returned (.int .i64 r) ∧ Drawn0 w w' := by
  have HR0 := Aside0.mk hr0
  have HC0 := Aside0.mk hc0
  clear hr0 hc0
  have H : (laws_heldInt64S.l0 k l0 a1 0) = some r := h
  clear h
  have H' := Aside0.mk H
  clear H
  go_enter Try.func22, Try.ntmps22
  go_wp2
  go_loopg [1, 5] k (fun kq v1 v5 w' => ∃ (x1_1 : Int) (x5_1 : Int), v1 = .int .i64 x1_1 ∧ v5 = .int .i64 x5_1 ∧ Aside0 (laws_heldInt64S.l0 kq l0 x1_1 x5_1 = some r) ∧ Aside0 (kq ≤ k) ∧ Drawn0 w w')
  case atStart => exact ⟨(a1), (0), (by first | rfl | (simp; done) | (simp [*]; done)), (by first | rfl | (simp; done) | (simp [*]; done)), H', ⟨Nat.le_refl _⟩, by repeat (first | exact Drawn0.refl _ | apply Drawn0.step)⟩
  case round =>
    clear H'
    try clear c2
    try clear p2
    obtain ⟨x1_1, x5_1, rfl, rfl, HA, HK1, ⟨m1, rfl⟩⟩ := hrel
    cases gk with
    | zero => exact absurd HA.out (by simp [laws_heldInt64S.l0])
    | succ k1 =>
      have H := HA.out
      clear HA
      simp only [laws_heldInt64S.l0] at H
      by_cases c3 : x5_1 < (l0.length : Int)
      · rw [if_pos c3] at H
        have c3b0 : decide (x5_1 < (l0.length : Int)) = true := decide_eq_true c3
        clear c3
        by_cases c4 : 0 ≤ x5_1
        · rw [if_pos c4] at H
          have c4b0 : decide (0 ≤ x5_1) = true := decide_eq_true c4
          clear c4
          by_cases c5 : (rd l0 x5_1) = x1_1
          · rw [if_pos c5] at H
            have c5b0 : ((rd l0 x5_1) == x1_1) = true := beq_iff_eq.mpr c5
            have c5b1 : ((rd l0 x5_1) != x1_1) = false := bne_eq_false_iff_eq.mpr c5
            clear c5
            have H' := Aside0.mk H
            clear H
            have p101 : 0 ≤ (x5_1 : Int) := of_decide_eq_true (by first | (with_reducible assumption) | assumption)
            have q101 : x5_1 < (l0.length : Int) := of_decide_eq_true (by first | (with_reducible assumption) | assumption)
            obtain ⟨ad101, e101, hx101_0⟩ := Kd.at_int HR0.out x5_1 p101 q101
            cases e101
            replace p101 := eq_true p101
            replace q101 := eq_true q101
            go_wp2
            go_roundg k1
            case measure => have := HK1.out; omega
            case rel => exact ⟨(wrap64 (x1_1 + 1)), (wrap64 (x5_1 + 1)), (by first | rfl | (simp; done) | (simp [*]; done)), (by first | rfl | (simp; done) | (simp [*]; done)), H', ⟨by have := HK1.out; omega⟩, by repeat (first | exact Drawn0.refl _ | apply Drawn0.step)⟩
          · rw [if_neg c5] at H
            have c5b0 : ((rd l0 x5_1) == x1_1) = false := beq_eq_false_iff_ne.mpr c5
            have c5b1 : ((rd l0 x5_1) != x1_1) = true := bne_iff_ne.mpr c5
            obtain rfl := Option.some.inj H
            have p101 : 0 ≤ (x5_1 : Int) := of_decide_eq_true (by first | (with_reducible assumption) | assumption)
            have q101 : x5_1 < (l0.length : Int) := of_decide_eq_true (by first | (with_reducible assumption) | assumption)
            obtain ⟨ad101, e101, hx101_0⟩ := Kd.at_int HR0.out x5_1 p101 q101
            cases e101
            replace p101 := eq_true p101
            replace q101 := eq_true q101
            go_wp2
            go_ret
            exact ⟨by first | rfl | (simp; done) | (simp [*]; done), by repeat (first | exact Drawn0.refl _ | apply Drawn0.step)⟩
        · rw [if_neg c4] at H
          exact absurd H (by simp)
      · rw [if_neg c3] at H
        have c3b0 : decide (x5_1 < (l0.length : Int)) = false := decide_eq_false c3
        clear c3
        obtain rfl := Option.some.inj H
        go_wp2
        go_ret
        exact ⟨by first | rfl | (simp; done) | (simp [*]; done), by repeat (first | exact Drawn0.refl _ | apply Drawn0.step)⟩

end Go.Proofs.Ytpdggpfobbkdnaa.A
namespace Go.Proofs.Ytpdggpfobbkdnaa.A
open Go.RowKit Go.Proofs.YtpdggpfobbkdnaaW.PrintWords Go.Proofs.YtpdggpfobbkdnaaW.PrintLast
theorem Ev.pos {α : Type} {c : Prop} [Decidable c] {f g : Nat → Option α} {r : α} (h : c) (k : Ev f r) : Ev (fun n => if c then f n else g n) r := by
  simpa only [if_pos h] using k
theorem Ev.neg {α : Type} {c : Prop} [Decidable c] {f g : Nat → Option α} {r : α} (h : ¬ c) (k : Ev g r) : Ev (fun n => if c then f n else g n) r := by
  simpa only [if_neg h] using k
theorem Ev.succ {α : Type} {g : Nat → Option α} {r : α} (k : Ev (fun n => g (n + 1)) r) : Ev g r := Ev.step (fun _ => rfl) k
theorem Ev.to {α : Type} {g : Nat → Option α} {r s : α} (h : Ev g r) (e : r = s) : Ev g s := e ▸ h
theorem Ev.uniq {α : Type} {g : Nat → Option α} {r s : α} (h : Ev g r) (h' : Ev g s) : r = s := by
  obtain ⟨K, h⟩ := h
  obtain ⟨K', h'⟩ := h'
  have a := h (max K K') (by omega)
  have b := h' (max K K') (by omega)
  exact Option.some.inj (a.symm.trans b)
theorem Ev.const {α : Type} {o : Option α} {r : α} (h : o = some r) : Ev (fun _ => o) r := ⟨0, fun _ _ => h⟩
theorem Ev.get {α : Type} {o : Option α} {r : α} (h : Ev (fun _ => o) r) : o = some r := by
  obtain ⟨K, h⟩ := h
  exact h K (Nat.le_refl _)
theorem w64 {x : Int} (h1 : -9223372036854775808 ≤ x) (h2 : x ≤ 9223372036854775807) : wrap64 x = x := by
  unfold wrap64
  omega
theorem w64_succ {i n : Nat} (h : i < n) (hn : n ≤ 9223372036854775807) : wrap64 ((i : Int) + 1) = ((i + 1 : Nat) : Int) := by
  rw [w64 (by omega) (by omega)]
  omega
theorem rdOf_at {α : Type} (d : α) (xs : List α) (i : Nat) (h : i < xs.length) : rdOf d xs (i : Int) = xs[i] := by
  simp [rdOf, List.getD_eq_getElem?_getD, List.getElem?_eq_getElem h]
theorem rd_at (xs : List Int) (i : Nat) (h : i < xs.length) : rd xs (i : Int) = xs[i] := by
  simp [rd, List.getD_eq_getElem?_getD, List.getElem?_eq_getElem h]
theorem bt_at_nat (s : ByteArray) (i : Nat) (h : i < s.size) : bt s (i : Int) = (s[i].toNat : Int) := by
  simp [bt, h]
theorem toList_eq (s : ByteArray) : s.toList = s.data.toList := Go.ByteArray.toList_eq s
theorem bytes_ext {s t : ByteArray} (h : s.toList = t.toList) : s = t := by
  rw [toList_eq, toList_eq] at h
  obtain ⟨⟨a⟩⟩ := s
  obtain ⟨⟨b⟩⟩ := t
  simp at h
  rw [h]
theorem ba_size (s : ByteArray) : s.data.toList.length = s.size := Nat.add_zero _
theorem ba_toList_len (s : ByteArray) : s.toList.length = s.size := by rw [toList_eq, ba_size]
theorem ba_get (s : ByteArray) (i : Nat) (h : i < s.size) : s.data.toList[i]? = some s[i] := by
  have h' : i < s.data.toList.length := by rw [ba_size]; exact h
  rw [List.getElem?_eq_getElem h']
  rfl
end Go.Proofs.Ytpdggpfobbkdnaa.A
namespace Go.Proofs.Ytpdggpfobbkdnaa.A
open Go.RowKit Go.Proofs.YtpdggpfobbkdnaaW.PrintWords Go.Proofs.YtpdggpfobbkdnaaW.PrintLast
theorem eqInt64S_l0 (l : List Int) (hl : l.length ≤ 9223372036854775807) : ∀ (d i : Nat), i + d = l.length → Ev (fun k => laws_eqInt64S.l0 k l l i) true := by
  intro d
  induction d with
  | zero =>
    intro i hi
    refine Ev.succ ?_
    simp only [laws_eqInt64S.l0]
    exact Ev.neg (by omega) (Ev.now _)
  | succ d ih =>
    intro i hi
    have hlt : i < l.length := by omega
    refine Ev.succ ?_
    simp only [laws_eqInt64S.l0, w64_succ hlt hl]
    exact Ev.pos (by omega) (Ev.pos (by omega) (Ev.pos (by omega) (Ev.pos trivial (ih (i + 1) (by omega)))))
theorem eqInt64S_ev (l : List Int) (hl : l.length ≤ 9223372036854775807) : Ev (fun k => laws_eqInt64S.f k l l) true := by
  simp only [laws_eqInt64S.f]
  exact Ev.pos trivial (eqInt64S_l0 l hl l.length 0 (by omega))
/-- The numbers from 1 on. -/
def ones (n : Nat) : List Int := (List.range n).map fun j => ((1 + j : Nat) : Int)
theorem ones_len (n : Nat) : (ones n).length = n := by simp [ones]
theorem ones_at (n i : Nat) (h : i < n) : rd (ones n) (i : Int) = ((1 + i : Nat) : Int) := by
  rw [rd_at _ _ (by rw [ones_len]; exact h)]
  simp [ones]
theorem markInt64S_l0 (n : Nat) (hl : n ≤ 4611686018427387904) : ∀ (d i : Nat) (x : List Int), i + d = n → x.length = n → (∀ j, j < i → x[j]? = some ((1 + j : Nat) : Int)) →
    Ev (fun k => laws_markInt64S.l0 k x ((1 + i : Nat) : Int) i) (((1 + n : Nat) : Int), ones n) := by
  intro d
  induction d with
  | zero =>
    intro i x hi hx hp
    refine Ev.succ ?_
    simp only [laws_markInt64S.l0]
    refine Ev.neg (by omega) (Ev.to (Ev.now _) ?_)
    obtain rfl : i = n := by omega
    refine congrArg _ (List.ext_getElem? fun j => ?_)
    by_cases hj : j < i
    · rw [hp j hj]
      simp [ones, hj]
    · rw [List.getElem?_eq_none (by omega), List.getElem?_eq_none (by rw [ones_len]; omega)]
  | succ d ih =>
    intro i x hi hx hp
    have hlt : i < x.length := by omega
    refine Ev.succ ?_
    simp only [laws_markInt64S.l0]
    rw [w64_succ hlt (by omega), show wrap64 (((1 + i : Nat) : Int) + 1) = ((1 + (i + 1) : Nat) : Int) by rw [w64 (by omega) (by omega)]; omega, Int.toNat_natCast]
    refine Ev.pos (by omega) (Ev.pos (by omega) (ih (i + 1) _ (by omega) (by simpa using hx) fun j hj => ?_))
    by_cases e : i = j
    · subst e
      rw [List.getElem?_set_self (by omega)]
    · rw [List.getElem?_set_ne e]
      exact hp j (by omega)
theorem markInt64S_ev (l : List Int) (hl : l.length ≤ 4611686018427387904) : Ev (fun k => laws_markInt64S.f k l 1) (((1 + l.length : Nat) : Int), ones l.length) := by
  simp only [laws_markInt64S.f]
  exact markInt64S_l0 l.length hl l.length 0 l (by omega) rfl (fun j hj => absurd hj (by omega))
theorem heldInt64S_l0 (n : Nat) (hl : n ≤ 4611686018427387904) : ∀ (d i : Nat), i + d = n → Ev (fun k => laws_heldInt64S.l0 k (ones n) ((1 + i : Nat) : Int) i) ((1 + n : Nat) : Int) := by
  intro d
  induction d with
  | zero =>
    intro i hi
    refine Ev.succ ?_
    simp only [laws_heldInt64S.l0, ones_len]
    refine Ev.neg (by omega) (Ev.to (Ev.now _) (by omega))
  | succ d ih =>
    intro i hi
    have hlt : i < n := by omega
    refine Ev.succ ?_
    simp only [laws_heldInt64S.l0, ones_len]
    rw [ones_at n i hlt, w64_succ hlt (by omega), show wrap64 (((1 + i : Nat) : Int) + 1) = ((1 + (i + 1) : Nat) : Int) by rw [w64 (by omega) (by omega)]; omega]
    exact Ev.pos (by omega) (Ev.pos (by omega) (Ev.pos rfl (ih (i + 1) (by omega))))
theorem heldInt64S_ev (n : Nat) (hl : n ≤ 4611686018427387904) : Ev (fun k => laws_heldInt64S.f k (ones n) 1) ((1 + n : Nat) : Int) := by
  simp only [laws_heldInt64S.f]
  exact heldInt64S_l0 n hl n 0 (by omega)
end Go.Proofs.Ytpdggpfobbkdnaa.A
namespace Go.Proofs.Ytpdggpfobbkdnaa.A
open Go.RowKit Go.Proofs.YtpdggpfobbkdnaaW.PrintWords Go.Proofs.YtpdggpfobbkdnaaW.PrintLast Go.Proofs.YtpdggpfobbkdnaaW.PrintMore
attribute [local go_sem] max2_int min2_int max_two min_two max_three min_three max_four min_four   -- for this text's walks alone
set_option linter.unusedVariables false
set_option linter.unusedSimpArgs false

/-! ### laws_szStringS: function 14 -/
def laws_szStringS.l0 : Nat → List ByteArray → Int → Int → Option (Int)
  | 0, _, _, _ => none
  | k + 1, x0, x1, x5 => if x5 < (x0.length : Int) then (if 0 ≤ x5 then (if (wrap64 (x1 - ((rdOf ByteArray.empty x0 x5).size : Int))) < 0 then (some (-1)) else (laws_szStringS.l0 k x0 (wrap64 (x1 - ((rdOf ByteArray.empty x0 x5).size : Int))) (wrap64 (x5 + 1)))) else (none)) else (some x1)
def laws_szStringS.f (k : Nat) (l0 : List ByteArray) (a1 : Int) : Option (Int) := if (wrap64 (a1 - (l0.length : Int))) < 0 then (some (-1)) else (laws_szStringS.l0 k l0 (wrap64 (a1 - (l0.length : Int))) 0)
theorem laws_szStringS.mono_l : ∀ k, (∀ y0 y1 y2, LeO (laws_szStringS.l0 k y0 y1 y2) (laws_szStringS.l0 (k + 1) y0 y1 y2))
  | 0 => fun _ _ _ r h => by simp [laws_szStringS.l0] at h
  | k + 1 => by
    have ih0 := laws_szStringS.mono_l k
    · intro y0 y1 y2
      unfold laws_szStringS.l0
      repeat' first
      | (with_reducible exact ih0 _ _ _)
      | (with_reducible exact LeO.refl _)
      | (with_reducible exact LeO.none _)
      | (with_reducible refine LeO.ite ?_ ?_)
      | (with_reducible refine LeO.bind ?_ (fun _ => ?_))
      | exact ih0 _ _ _
      | exact LeO.none _
      | refine LeO.ite ?_ ?_
      | refine LeO.bind ?_ (fun _ => ?_)
theorem laws_szStringS.mono : ∀ a0 a1 k, LeO (laws_szStringS.f k a0 a1) (laws_szStringS.f (k + 1) a0 a1) := by
  intro a0 a1 k
  have ih0 := laws_szStringS.mono_l k
  unfold laws_szStringS.f
  repeat' first
      | (with_reducible exact ih0 _ _ _)
      | (with_reducible exact LeO.refl _)
      | (with_reducible exact LeO.none _)
      | (with_reducible refine LeO.ite ?_ ?_)
      | (with_reducible refine LeO.bind ?_ (fun _ => ?_))
      | exact ih0 _ _ _
      | exact LeO.none _
      | refine LeO.ite ?_ ?_
      | refine LeO.bind ?_ (fun _ => ?_)
set_option maxHeartbeats 8000000 in
set_option maxRecDepth 100000 in
theorem laws_szStringS.calls (k : Nat) (A0 : Option Addr) (c0 : Nat) (l0 : List ByteArray) (a1 : Int) (r : Int) (w : World) (hr0 : Kd.C Kd.string w A0 l0.length l0) (hc0 : l0.length ≤ c0) (h : laws_szStringS.f k l0 a1 = some r) :
    Calls Try.prog 14 #[.slice A0 l0.length c0, .int .i64 a1] w fun e w' => e = .returned (.int .i64 r) ∧ Drawn0 w w' := by
  have HR0 := Aside0.mk hr0
  have HC0 := Aside0.mk hc0
  clear hr0 hc0
  have H : (if (wrap64 (a1 - (l0.length : Int))) < 0 then (some (-1)) else (laws_szStringS.l0 k l0 (wrap64 (a1 - (l0.length : Int))) 0)) = some r := h
  clear h
  by_cases c3 : (wrap64 (a1 - (l0.length : Int))) < 0
  · rw [if_pos c3] at H
    have c3b0 : decide ((wrap64 (a1 - (l0.length : Int))) < 0) = true := decide_eq_true c3
    clear c3
    obtain rfl := Option.some.inj H
    go_enter Try.func14, Try.ntmps14
    go_wp2
    go_ret
    exact ⟨by first | rfl | (simp; done) | (simp [*]; done), by repeat (first | exact Drawn0.refl _ | apply Drawn0.step)⟩
  · rw [if_neg c3] at H
    have c3b0 : decide ((wrap64 (a1 - (l0.length : Int))) < 0) = false := decide_eq_false c3
    clear c3
    have H' := Aside0.mk H
    clear H
    go_enter Try.func14, Try.ntmps14
    go_wp2
    go_loopg [1, 5] k (fun kq v1 v5 w' => ∃ (x1_1 : Int) (x5_1 : Int), v1 = .int .i64 x1_1 ∧ v5 = .int .i64 x5_1 ∧ Aside0 (laws_szStringS.l0 kq l0 x1_1 x5_1 = some r) ∧ Aside0 (kq ≤ k) ∧ Drawn0 w w')
    case atStart => exact ⟨(wrap64 (a1 - (l0.length : Int))), (0), (by first | rfl | (simp; done) | (simp [*]; done)), (by first | rfl | (simp; done) | (simp [*]; done)), H', ⟨Nat.le_refl _⟩, by repeat (first | exact Drawn0.refl _ | apply Drawn0.step)⟩
    case round =>
      clear H'
      try clear c1
      try clear p2
      try clear c3
      try clear c3b0
      obtain ⟨x1_1, x5_1, rfl, rfl, HA, HK1, ⟨m1, rfl⟩⟩ := hrel
      cases gk with
      | zero => exact absurd HA.out (by simp [laws_szStringS.l0])
      | succ k1 =>
        have H := HA.out
        clear HA
        simp only [laws_szStringS.l0] at H
        by_cases c4 : x5_1 < (l0.length : Int)
        · rw [if_pos c4] at H
          have c4b0 : decide (x5_1 < (l0.length : Int)) = true := decide_eq_true c4
          clear c4
          by_cases c5 : 0 ≤ x5_1
          · rw [if_pos c5] at H
            have c5b0 : decide (0 ≤ x5_1) = true := decide_eq_true c5
            clear c5
            by_cases c6 : (wrap64 (x1_1 - ((rdOf ByteArray.empty l0 x5_1).size : Int))) < 0
            · rw [if_pos c6] at H
              have c6b0 : decide ((wrap64 (x1_1 - ((rdOf ByteArray.empty l0 x5_1).size : Int))) < 0) = true := decide_eq_true c6
              clear c6
              obtain rfl := Option.some.inj H
              have p101 : 0 ≤ (x5_1 : Int) := of_decide_eq_true (by first | (with_reducible assumption) | assumption)
              have q101 : x5_1 < (l0.length : Int) := of_decide_eq_true (by first | (with_reducible assumption) | assumption)
              obtain ⟨ad101, e101, hx101_0⟩ := Kd.at_string HR0.out x5_1 p101 q101
              cases e101
              replace p101 := eq_true p101
              replace q101 := eq_true q101
              go_wp2
              go_ret
              exact ⟨by first | rfl | (simp; done) | (simp [*]; done), by repeat (first | exact Drawn0.refl _ | apply Drawn0.step)⟩
            · rw [if_neg c6] at H
              have c6b0 : decide ((wrap64 (x1_1 - ((rdOf ByteArray.empty l0 x5_1).size : Int))) < 0) = false := decide_eq_false c6
              clear c6
              have H' := Aside0.mk H
              clear H
              have p101 : 0 ≤ (x5_1 : Int) := of_decide_eq_true (by first | (with_reducible assumption) | assumption)
              have q101 : x5_1 < (l0.length : Int) := of_decide_eq_true (by first | (with_reducible assumption) | assumption)
              obtain ⟨ad101, e101, hx101_0⟩ := Kd.at_string HR0.out x5_1 p101 q101
              cases e101
              replace p101 := eq_true p101
              replace q101 := eq_true q101
              go_wp2
              go_roundg k1
              case measure => have := HK1.out; omega
              case rel => exact ⟨(wrap64 (x1_1 - ((rdOf ByteArray.empty l0 x5_1).size : Int))), (wrap64 (x5_1 + 1)), (by first | rfl | (simp; done) | (simp [*]; done)), (by first | rfl | (simp; done) | (simp [*]; done)), H', ⟨by have := HK1.out; omega⟩, by repeat (first | exact Drawn0.refl _ | apply Drawn0.step)⟩
          · rw [if_neg c5] at H
            exact absurd H (by simp)
        · rw [if_neg c4] at H
          have c4b0 : decide (x5_1 < (l0.length : Int)) = false := decide_eq_false c4
          clear c4
          obtain rfl := Option.some.inj H
          go_wp2
          go_ret
          exact ⟨by first | rfl | (simp; done) | (simp [*]; done), by repeat (first | exact Drawn0.refl _ | apply Drawn0.step)⟩

end Go.Proofs.Ytpdggpfobbkdnaa.A
namespace Go.Proofs.Ytpdggpfobbkdnaa.A
open Go.RowKit Go.Proofs.YtpdggpfobbkdnaaW.PrintWords Go.Proofs.YtpdggpfobbkdnaaW.PrintLast Go.Proofs.YtpdggpfobbkdnaaW.PrintMore
attribute [local go_sem] max2_int min2_int max_two min_two max_three min_three max_four min_four   -- for this text's walks alone
set_option linter.unusedVariables false
set_option linter.unusedSimpArgs false

/-! ### laws_toStringS: function 16 -/
def laws_toStringS.l0 : Nat → List ByteArray → List ByteArray → Int → Option (List ByteArray)
  | 0, _, _, _ => none
  | k + 1, x0, x3, x4 => if x4 < (x0.length : Int) then (if 0 ≤ x4 then (if x4 < (x3.length : Int) then (laws_toStringS.l0 k x0 (x3.set (x4 : Int).toNat (rdOf ByteArray.empty x0 x4)) (wrap64 (x4 + 1))) else (none)) else (none)) else (some x3)
def laws_toStringS.f (k : Nat) (l0 : List ByteArray) : Option (List ByteArray) := if 0 ≤ (l0.length : Int) then (if ((l0.length : Int) : Int).toNat ≤ 17592186044416 then (laws_toStringS.l0 k l0 (List.replicate ((l0.length : Int) : Int).toNat (⟨#[]⟩ : ByteArray)) 0) else (none)) else (none)
theorem laws_toStringS.mono_l : ∀ k, (∀ y0 y1 y2, LeO (laws_toStringS.l0 k y0 y1 y2) (laws_toStringS.l0 (k + 1) y0 y1 y2))
  | 0 => fun _ _ _ r h => by simp [laws_toStringS.l0] at h
  | k + 1 => by
    have ih0 := laws_toStringS.mono_l k
    · intro y0 y1 y2
      unfold laws_toStringS.l0
      repeat' first
      | (with_reducible exact ih0 _ _ _)
      | (with_reducible exact LeO.refl _)
      | (with_reducible exact LeO.none _)
      | (with_reducible refine LeO.ite ?_ ?_)
      | (with_reducible refine LeO.bind ?_ (fun _ => ?_))
      | exact ih0 _ _ _
      | exact LeO.none _
      | refine LeO.ite ?_ ?_
      | refine LeO.bind ?_ (fun _ => ?_)
theorem laws_toStringS.mono : ∀ a0 k, LeO (laws_toStringS.f k a0) (laws_toStringS.f (k + 1) a0) := by
  intro a0 k
  have ih0 := laws_toStringS.mono_l k
  unfold laws_toStringS.f
  repeat' first
      | (with_reducible exact ih0 _ _ _)
      | (with_reducible exact LeO.refl _)
      | (with_reducible exact LeO.none _)
      | (with_reducible refine LeO.ite ?_ ?_)
      | (with_reducible refine LeO.bind ?_ (fun _ => ?_))
      | exact ih0 _ _ _
      | exact LeO.none _
      | refine LeO.ite ?_ ?_
      | refine LeO.bind ?_ (fun _ => ?_)
set_option maxHeartbeats 8000000 in
set_option maxRecDepth 100000 in
theorem laws_toStringS.calls (k : Nat) (A0 : Option Addr) (c0 : Nat) (l0 : List ByteArray) (r : List ByteArray) (w : World) (hr0 : Kd.C Kd.string w A0 l0.length l0) (hc0 : l0.length ≤ c0) (h : laws_toStringS.f k l0 = some r) :
    Calls Try.prog 16 #[.slice A0 l0.length c0] w fun e w' => ∃ v0_ : Value, e = .returned (v0_) ∧ Kd.R Kd.string 9 w' w.heap.size (fun _ => True) v0_ r ∧ Below w.heap.size w w' := by
  have HR0 := Aside0.mk hr0
  have HC0 := Aside0.mk hc0
  clear hr0 hc0
  have HB := Aside0.mk (Below.refl w.heap.size w)
  have H : (if 0 ≤ (l0.length : Int) then (if ((l0.length : Int) : Int).toNat ≤ 17592186044416 then (laws_toStringS.l0 k l0 (List.replicate ((l0.length : Int) : Int).toNat (⟨#[]⟩ : ByteArray)) 0) else (none)) else (none)) = some r := h
  clear h
  by_cases c2 : 0 ≤ (l0.length : Int)
  · rw [if_pos c2] at H
    have c2b0 := eq_true c2
    have c2b1 : decide (0 ≤ (l0.length : Int)) = true := decide_eq_true c2
    clear c2
    by_cases c3 : ((l0.length : Int) : Int).toNat ≤ 17592186044416
    · rw [if_pos c3] at H
      have c3b0 := eq_true c3
      have c3b1 : decide (((l0.length : Int) : Int).toNat ≤ 17592186044416) = true := decide_eq_true c3
      clear c3
      obtain ⟨y101, hy101⟩ : ∃ y_ : List ByteArray, y_ = (List.replicate ((l0.length : Int) : Int).toNat (⟨#[]⟩ : ByteArray)) := ⟨_, rfl⟩
      replace H : (laws_toStringS.l0 k l0 y101 0) = some r := by first | (rw [hy101]; with_reducible exact H) | (have H2_ := (Option.bind_some _ _).symm.trans H; rw [hy101]; with_reducible exact H2_) | (have H2_ := (Option.bind_some _ _).symm.trans H; with_reducible exact H2_) | with_reducible exact H | (rw [hy101]; exact H) | exact H
      have Ny101 := Aside0.mk hy101
      clear hy101
      have H' := Aside0.mk H
      clear H
      go_enter Try.func16, Try.ntmps16
      go_wp2_with (first | ((with_reducible refine gate_dst (N := 7) rfl ?_); refine Kd.R_make Kd.string _ 9 rfl (N := 7) rfl 22 _ _ rfl (l0.length : Int) rfl rfl Try.underlying22 (.string ⟨#[]⟩) 16 info9 rfl (by decide) (by omega) (⟨#[]⟩ : ByteArray) (ok := fun _ => True) (okp := fun _ => True) rfl (fun _ hk => hk) trivial (of_decide_eq_true (by first | (with_reducible assumption) | assumption)) (Nat.le_trans (Nat.mul_le_mul_right _ (of_decide_eq_true (by first | (with_reducible assumption) | assumption) : (l0.length : Int).toNat ≤ 17592186044416)) (by omega)) (Below.refl _ _) (Nat.le_refl _) ?_; intro v102 w4 ho5 hb hg_ hnew_; clear hg_ hnew_; (first | rw [← Ny101.out] at ho5 | (simp only [Int.reduceToNat] at ho5; rw [← Ny101.out] at ho5)); have n0_ := Aside0.mk (Kd.R_lower ho5 (below_size (by repeat (first | (with_reducible first | exact HB.out | apply below_alloc | apply pw_below_drewN | apply below_drew1) | exact HB.out)))); have n1_ := Aside0.mk (below_step (by repeat (first | (with_reducible first | exact HB.out | apply below_alloc | apply pw_below_drewN | apply below_drew1) | exact HB.out)) hb); clear HB; have HO103 := n0_; have HB := n1_; clear n0_ n1_; clear hb ho5))
      go_loopg [4] k (fun kq v4 w' => ∃ (x3_1 : List ByteArray) (x4_1 : Int), v4 = .int .i64 x4_1 ∧ Aside0 (laws_toStringS.l0 kq l0 x3_1 x4_1 = some r) ∧ Aside0 (kq ≤ k) ∧ Aside0 (Kd.R Kd.string 9 w' w.heap.size (fun _ => True) v102 x3_1) ∧ Aside0 (Below w.heap.size w w'))
      case atStart => exact ⟨(y101), (0), (by first | rfl | (simp; done) | (simp [*]; done)), H', ⟨Nat.le_refl _⟩, ⟨by (with_reducible repeat (first | apply Kd.R_alloc | apply Kd.R_drewN | apply Kd.R_drew)); exact HO103.out⟩, ⟨by repeat (first | (with_reducible first | exact HB.out | apply below_alloc | apply pw_below_drewN | apply below_drew1) | exact HB.out)⟩⟩
      case round =>
        clear H'
        try clear c1
        try clear c2
        try clear c2b0
        try clear c2b1
        try clear p2
        try clear c3
        try clear c3b0
        try clear c3b1
        obtain ⟨x3_1, x4_1, rfl, HA, HK1, HO_3, HB⟩ := hrel
        cases gk with
        | zero => exact absurd HA.out (by simp [laws_toStringS.l0])
        | succ k1 =>
          have H := HA.out
          clear HA
          simp only [laws_toStringS.l0] at H
          by_cases c6 : x4_1 < (l0.length : Int)
          · rw [if_pos c6] at H
            have c6b0 : decide (x4_1 < (l0.length : Int)) = true := decide_eq_true c6
            clear c6
            by_cases c7 : 0 ≤ x4_1
            · rw [if_pos c7] at H
              have c7b0 : decide (0 ≤ x4_1) = true := decide_eq_true c7
              clear c7
              by_cases c8 : x4_1 < (x3_1.length : Int)
              · rw [if_pos c8] at H
                have c8b0 : decide (x4_1 < (x3_1.length : Int)) = true := decide_eq_true c8
                clear c8
                obtain ⟨y105, hy105⟩ : ∃ y_ : List ByteArray, y_ = (x3_1.set (x4_1 : Int).toNat (rdOf ByteArray.empty l0 x4_1)) := ⟨_, rfl⟩
                replace H : (laws_toStringS.l0 k1 l0 y105 (wrap64 (x4_1 + 1))) = some r := by first | (rw [hy105]; with_reducible exact H) | (have H2_ := (Option.bind_some _ _).symm.trans H; rw [hy105]; with_reducible exact H2_) | (have H2_ := (Option.bind_some _ _).symm.trans H; with_reducible exact H2_) | with_reducible exact H | (rw [hy105]; exact H) | exact H
                have Ny105 := Aside0.mk hy105
                clear hy105
                have H' := Aside0.mk H
                clear H
                have p104 : 0 ≤ (x4_1 : Int) := of_decide_eq_true (by first | (with_reducible assumption) | assumption)
                have q104 : x4_1 < (l0.length : Int) := of_decide_eq_true (by first | (with_reducible assumption) | assumption)
                obtain ⟨ad104, e104, hx104_0⟩ := Kd.at_string HR0.out x4_1 p104 q104
                cases e104
                replace hx104_0 := (HB.out.cell (World.block_lt_of_cell? w _ hx104_0)).trans hx104_0
                replace p104 := eq_true p104
                replace q104 := eq_true q104
                have p9 : 0 ≤ (x4_1 : Int) := of_decide_eq_true (by first | (with_reducible assumption) | assumption)
                have q9 : (x4_1 : Int) < ((x3_1.length : Int) : Int) := of_decide_eq_true (by first | (with_reducible assumption) | assumption)
                obtain ⟨go9, co9, eo9, gb9, gl9, cl9, HG9⟩ := Kd.R_form HO_3.out (by omega)
                (first | cases eo9 | (injection eo9 with ea_ en_ ec_; (first | subst ea_ | (injection ea_ with ea_; subst ea_)); subst ec_; clear en_))
                have GB9 := Aside0.mk gb9
                have GG9 := Aside0.mk HG9
                clear gb9 gl9 HG9
                obtain ⟨hx9_0, hf9_0⟩ := Kd.R_celln (⟨#[]⟩ : ByteArray) HO_3.out (x4_1 : Int) p9 q9
                replace p9 := eq_true p9
                replace q9 := eq_true q9
                have HP10 := Kd.R_putg HO_3.out (x4_1 : Int) (rdOf ByteArray.empty l0 x4_1)
                go_wp2_with (first | ((with_reducible refine gate_store (t := 9) (p := 20) rfl ?_); refine store_event (t := 9) (p := 20) (v := ?vo_w11) (w1 := (wr.setCell ⟨go9, (x4_1 : Int).toNat, none⟩ (.string (rdOf ByteArray.empty l0 x4_1)))) ?hg ?ho ?hn ?hr ?_; (case ho => rfl); (case hg => rfl); (case hn => rfl); (case hr => first | (go_simp; done) | (go_simp; rfl)); intro w11 hw; have hg : wr.grownBy w11 (some go9) := (by rw [hw]; exact HP10.2); have hp_ : Kd.R Kd.string 9 w11 w.heap.size (fun _ => True) (.slice (some ⟨go9, 0, none⟩) x3_1.length co9) y105 := (by rw [hw, Ny105.out]; exact HP10.1); clear HP10; have n0_ := Aside0.mk (hp_); have n1_ := Aside0.mk ((by rw [hw]; exact below_set (HB.out) GB9.out : Below w.heap.size w w11)); clear HO_3; clear HB; have HO_3 := n0_; have HB := n1_; clear n0_ n1_; clear hg hw hp_))
                go_roundg k1
                case measure => have := HK1.out; omega
                case rel => exact ⟨(y105), (wrap64 (x4_1 + 1)), (by first | rfl | (simp; done) | (simp [*]; done)), H', ⟨by have := HK1.out; omega⟩, ⟨by (with_reducible repeat (first | apply Kd.R_alloc | apply Kd.R_drewN | apply Kd.R_drew)); exact HO_3.out⟩, ⟨by repeat (first | (with_reducible first | exact HB.out | apply below_alloc | apply pw_below_drewN | apply below_drew1) | exact HB.out)⟩⟩
              · rw [if_neg c8] at H
                exact absurd H (by simp)
            · rw [if_neg c7] at H
              exact absurd H (by simp)
          · rw [if_neg c6] at H
            have c6b0 : decide (x4_1 < (l0.length : Int)) = false := decide_eq_false c6
            clear c6
            obtain rfl := Option.some.inj H
            go_wp2
            go_ret
            exact ⟨_, by first | rfl | (simp [errW_none, errW_some] <;> rfl) | (simp [*, errW_none, errW_some] <;> rfl), by (with_reducible repeat (first | apply Kd.R_alloc | apply Kd.R_drewN | apply Kd.R_drew)); exact HO_3.out, by repeat (first | (with_reducible first | exact HB.out | apply below_alloc | apply pw_below_drewN | apply below_drew1) | exact HB.out)⟩
    · rw [if_neg c3] at H
      exact absurd H (by simp)
  · rw [if_neg c2] at H
    exact absurd H (by simp)

end Go.Proofs.Ytpdggpfobbkdnaa.A
namespace Go.Proofs.Ytpdggpfobbkdnaa.A
open Go.RowKit Go.Proofs.YtpdggpfobbkdnaaW.PrintWords Go.Proofs.YtpdggpfobbkdnaaW.PrintLast
theorem szStringS_l0 (l : List ByteArray) (hl : l.length ≤ 9223372036854775807) (hs : ∀ z ∈ l, z.size ≤ 9223372036854775807) : ∀ (d i : Nat) (left : Int), i + d = l.length → 0 ≤ left → left ≤ 1048576 →
    ∃ t, Ev (fun k => laws_szStringS.l0 k l left i) t ∧ (0 ≤ t → ∀ j (h : j < l.length), i ≤ j → l[j].size ≤ 1048576) := by
  intro d
  induction d with
  | zero =>
    intro i left hi h0 h1
    refine ⟨left, Ev.succ ?_, fun _ j h hj => absurd h (by omega)⟩
    simp only [laws_szStringS.l0]
    exact Ev.neg (by omega) (Ev.now _)
  | succ d ih =>
    intro i left hi h0 h1
    have hlt : i < l.length := by omega
    have hz := hs l[i] (List.getElem_mem hlt)
    have hw : wrap64 (left - (l[i].size : Int)) = left - (l[i].size : Int) := w64 (by omega) (by omega)
    by_cases hn : left - (l[i].size : Int) < 0
    · refine ⟨-1, Ev.succ ?_, fun h => absurd h (by omega)⟩
      simp only [laws_szStringS.l0, rdOf_at _ l i hlt, hw]
      exact Ev.pos (by omega) (Ev.pos (by omega) (Ev.pos hn (Ev.now _)))
    · obtain ⟨t, ht, hall⟩ := ih (i + 1) (left - (l[i].size : Int)) (by omega) (by omega) (by omega)
      refine ⟨t, Ev.succ ?_, fun h j hj hij => ?_⟩
      · simp only [laws_szStringS.l0, rdOf_at _ l i hlt, hw, w64_succ hlt hl]
        exact Ev.pos (by omega) (Ev.pos (by omega) (Ev.neg hn ht))
      · by_cases e : i = j
        · subst e
          omega
        · exact hall h j hj (by omega)
theorem szStringS_ev (l : List ByteArray) (hl : l.length ≤ maxLen) (hs : ∀ z ∈ l, z.size ≤ maxLen) :
    ∃ t, Ev (fun k => laws_szStringS.f k l 1048576) t ∧ (0 ≤ t → l.length ≤ 1048576 ∧ ∀ z ∈ l, z.size ≤ 1048576) := by
  unfold maxLen at hl hs
  have hw : wrap64 (1048576 - (l.length : Int)) = 1048576 - (l.length : Int) := w64 (by omega) (by omega)
  by_cases hn : 1048576 - (l.length : Int) < 0
  · refine ⟨-1, ?_, fun h => absurd h (by omega)⟩
    simp only [laws_szStringS.f, hw]
    exact Ev.pos hn (Ev.now _)
  · obtain ⟨t, ht, hall⟩ := szStringS_l0 l hl hs l.length 0 (1048576 - (l.length : Int)) (by omega) (by omega) (by omega)
    refine ⟨t, ?_, fun h => ⟨by omega, fun z hz => ?_⟩⟩
    · simp only [laws_szStringS.f, hw]
      exact Ev.neg hn ht
    · obtain ⟨j, hj, rfl⟩ := List.getElem_of_mem hz
      exact hall h j hj (by omega)
theorem toStringS_l0 (l : List ByteArray) (hl : l.length ≤ 9223372036854775807) : ∀ (d i : Nat) (x : List ByteArray), i + d = l.length → x.length = l.length → (∀ j, j < i → x[j]? = l[j]?) → Ev (fun k => laws_toStringS.l0 k l x i) l := by
  intro d
  induction d with
  | zero =>
    intro i x hi hx hp
    refine Ev.succ ?_
    simp only [laws_toStringS.l0]
    refine Ev.neg (by omega) (Ev.to (Ev.now x) ?_)
    refine List.ext_getElem? fun j => ?_
    by_cases hj : j < i
    · exact hp j hj
    · rw [List.getElem?_eq_none (by omega), List.getElem?_eq_none (by omega)]
  | succ d ih =>
    intro i x hi hx hp
    have hlt : i < l.length := by omega
    refine Ev.succ ?_
    simp only [laws_toStringS.l0, rdOf_at _ l i hlt, w64_succ hlt hl]
    refine Ev.pos (by omega) (Ev.pos (by omega) (Ev.pos (by omega) (ih (i + 1) _ (by omega) (by simpa using hx) fun j hj => ?_)))
    rw [Int.toNat_natCast]
    by_cases e : i = j
    · subst e
      rw [List.getElem?_set_self (by omega), List.getElem?_eq_getElem hlt]
    · rw [List.getElem?_set_ne e]
      exact hp j (by omega)
theorem toStringS_ev (l : List ByteArray) (hl : l.length ≤ 1048576) : Ev (fun k => laws_toStringS.f k l) l := by
  simp only [laws_toStringS.f]
  exact Ev.pos (by omega) (Ev.pos (by omega) (toStringS_l0 l (by omega) l.length 0 _ (by omega) (by simp) (fun j hj => absurd hj (by omega))))
theorem eqStringS_l0 (l : List ByteArray) (hl : l.length ≤ 9223372036854775807) : ∀ (d i : Nat), i + d = l.length → Ev (fun k => laws_eqStringS.l0 k l l i) true := by
  intro d
  induction d with
  | zero =>
    intro i hi
    refine Ev.succ ?_
    simp only [laws_eqStringS.l0]
    exact Ev.neg (by omega) (Ev.now _)
  | succ d ih =>
    intro i hi
    have hlt : i < l.length := by omega
    refine Ev.succ ?_
    simp only [laws_eqStringS.l0, w64_succ hlt hl]
    exact Ev.pos (by omega) (Ev.pos (by omega) (Ev.pos (by omega) (Ev.pos trivial (ih (i + 1) (by omega)))))
theorem eqStringS_ev (l : List ByteArray) (hl : l.length ≤ 9223372036854775807) : Ev (fun k => laws_eqStringS.f k l l) true := by
  simp only [laws_eqStringS.f]
  exact Ev.pos trivial (eqStringS_l0 l hl l.length 0 (by omega))
theorem ba_size_append (a b : ByteArray) : (a ++ b).size = a.size + b.size := ByteArray.size_append
theorem strOfNums_one (n : Int) : (strOfNums [n]).size = 1 := by
  simp [strOfNums, ByteArray.size]
theorem markText_l0 : ∀ (d : Nat) (n : Int) (x : ByteArray), 0 ≤ n → n < 2 ^ d → n ≤ 4611686018427387904 → x.size + d ≤ 1000 → ∃ s, Ev (fun k => laws_markText.l0 k n x) s := by
  intro d
  induction d with
  | zero =>
    intro n x h0 h1 _ hx
    refine ⟨(⟨#[109]⟩ : ByteArray) ++ x, Ev.succ ?_⟩
    simp only [laws_markText.l0]
    exact Ev.neg (by omega) (Ev.pos (by omega) (Ev.now _))
  | succ d ih =>
    intro n x h0 h1 h2 hx
    by_cases hn : n > 0
    · have hd : Int.tdiv n 10 = n / 10 := Int.tdiv_eq_ediv_of_nonneg h0
      have hw : wrap64 (n / 10) = n / 10 := w64 (by omega) (by omega)
      have hp : (2 : Int) ^ (d + 1) = 2 * 2 ^ d := by rw [Int.pow_succ]; omega
      obtain ⟨s, hs⟩ := ih (n / 10) (strOfNums [(wrap64 (48 + (Int.tmod n 10))) % 256] ++ x) (by omega) (by omega) (by omega) (by rw [ba_size_append, strOfNums_one]; omega)
      refine ⟨s, Ev.succ ?_⟩
      simp only [laws_markText.l0, hd, hw, Option.bind_some]
      exact Ev.pos hn (Ev.pos (by rw [strOfNums_one]; omega) hs)
    · refine ⟨(⟨#[109]⟩ : ByteArray) ++ x, Ev.succ ?_⟩
      simp only [laws_markText.l0]
      exact Ev.neg hn (Ev.pos (by omega) (Ev.now _))
theorem markText_ev (n : Nat) (hn : n ≤ 4611686018427387904) : ∃ s, Ev (fun k => laws_markText.f k (n : Int)) s := by
  by_cases h : (n : Int) ≤ 0
  · exact ⟨_, by simp only [laws_markText.f]; exact Ev.pos h (Ev.now _)⟩
  · obtain ⟨s, hs⟩ := markText_l0 63 n ⟨#[]⟩ (by omega) (by omega) (by omega) (by decide)
    exact ⟨s, by simp only [laws_markText.f]; exact Ev.neg h hs⟩
/-- The mark of a number. -/
noncomputable def mt (n : Nat) : ByteArray := if h : n ≤ 4611686018427387904 then Classical.choose (markText_ev n h) else ByteArray.empty
theorem mt_ev (n : Nat) (h : n ≤ 4611686018427387904) : Ev (fun k => laws_markText.f k (n : Int)) (mt n) := by
  unfold mt
  rw [dif_pos h]
  exact Classical.choose_spec (markText_ev n h)
theorem markStringS_l0 (n : Nat) (hl : n ≤ 1048576) : ∀ (d i : Nat) (x : List ByteArray), i + d = n → x.length = n → (∀ j, j < i → x[j]? = some (mt (1 + j))) →
    Ev (fun k => laws_markStringS.l0 k x ((1 + i : Nat) : Int) i) (((1 + n : Nat) : Int), (List.range n).map fun j => mt (1 + j)) := by
  intro d
  induction d with
  | zero =>
    intro i x hi hx hp
    refine Ev.succ ?_
    simp only [laws_markStringS.l0]
    refine Ev.neg (by omega) (Ev.to (Ev.now _) ?_)
    obtain rfl : i = n := by omega
    refine congrArg _ (List.ext_getElem? fun j => ?_)
    by_cases hj : j < i
    · rw [hp j hj]
      simp [hj]
    · rw [List.getElem?_eq_none (by omega), List.getElem?_eq_none (by simp; omega)]
  | succ d ih =>
    intro i x hi hx hp
    have hlt : i < x.length := by omega
    refine Ev.succ ?_
    simp only [laws_markStringS.l0]
    rw [w64_succ hlt (by omega), show wrap64 (((1 + i : Nat) : Int) + 1) = ((1 + (i + 1) : Nat) : Int) by rw [w64 (by omega) (by omega)]; omega, Int.toNat_natCast]
    refine Ev.pos (by omega) (Ev.bind (mt_ev (1 + i) (by omega)) (Ev.pos (by omega) (ih (i + 1) _ (by omega) (by simpa using hx) fun j hj => ?_)))
    by_cases e : i = j
    · subst e
      rw [List.getElem?_set_self (by omega)]
    · rw [List.getElem?_set_ne e]
      exact hp j (by omega)
theorem markStringS_ev (l : List ByteArray) (hl : l.length ≤ 1048576) : Ev (fun k => laws_markStringS.f k l 1) (((1 + l.length : Nat) : Int), (List.range l.length).map fun j => mt (1 + j)) := by
  simp only [laws_markStringS.f]
  exact markStringS_l0 l.length hl l.length 0 l (by omega) rfl (fun j hj => absurd hj (by omega))
end Go.Proofs.Ytpdggpfobbkdnaa.A
namespace Go.Proofs.Ytpdggpfobbkdnaa.A
open Go.RowKit Go.Proofs.YtpdggpfobbkdnaaW.PrintWords Go.Proofs.YtpdggpfobbkdnaaW.PrintLast
/-- The marks from 1 on. -/
noncomputable def marks (n : Nat) : List ByteArray := (List.range n).map fun j => mt (1 + j)
theorem marks_len (n : Nat) : (marks n).length = n := by simp [marks]
theorem marks_at (n i : Nat) (h : i < n) : rdOf ByteArray.empty (marks n) (i : Int) = mt (1 + i) := by
  rw [rdOf_at _ _ _ (by rw [marks_len]; exact h)]
  simp [marks]
theorem heldStringS_l0 (n : Nat) (hl : n ≤ 1048576) : ∀ (d i : Nat), i + d = n → Ev (fun k => laws_heldStringS.l0 k (marks n) ((1 + i : Nat) : Int) i) ((1 + n : Nat) : Int) := by
  intro d
  induction d with
  | zero =>
    intro i hi
    refine Ev.succ ?_
    simp only [laws_heldStringS.l0, marks_len]
    refine Ev.neg (by omega) (Ev.to (Ev.now _) (by omega))
  | succ d ih =>
    intro i hi
    have hlt : i < n := by omega
    refine Ev.succ ?_
    simp only [laws_heldStringS.l0, marks_len]
    rw [marks_at n i hlt, w64_succ hlt (by omega), show wrap64 (((1 + i : Nat) : Int) + 1) = ((1 + (i + 1) : Nat) : Int) by rw [w64 (by omega) (by omega)]; omega]
    exact Ev.pos (by omega) (Ev.pos (by omega) (Ev.bind (mt_ev (1 + i) (by omega)) (Ev.pos rfl (ih (i + 1) (by omega)))))
theorem heldStringS_ev (n : Nat) (hl : n ≤ 1048576) : Ev (fun k => laws_heldStringS.f k (marks n) 1) ((1 + n : Nat) : Int) := by
  simp only [laws_heldStringS.f]
  exact heldStringS_l0 n hl n 0 (by omega)
theorem markStringS_marks (l : List ByteArray) (hl : l.length ≤ 1048576) : Ev (fun k => laws_markStringS.f k l 1) (((1 + l.length : Nat) : Int), marks l.length) := markStringS_ev l hl
end Go.Proofs.Ytpdggpfobbkdnaa.A
namespace Go.Proofs.Ytpdggpfobbkdnaa.A
open Go.RowKit Go.Proofs.YtpdggpfobbkdnaaW.PrintWords Go.Proofs.YtpdggpfobbkdnaaW.PrintLast
/-- Each byte from place i on is from low to high. -/
def okBytes (low high : Nat) (s : ByteArray) : Bool := s.data.toList.all fun c => decide (low ≤ c.toNat) && decide (c.toNat ≤ high)
def okFrom (low high : Nat) (s : ByteArray) (i : Nat) : Bool := (s.data.toList.drop i).all fun c => decide (low ≤ c.toNat) && decide (c.toNat ≤ high)
theorem okFrom_end (low high : Nat) (s : ByteArray) : okFrom low high s s.size = true := by
  unfold okFrom
  rw [List.drop_of_length_le (by rw [ba_size]; omega)]
  rfl
theorem okFrom_succ (low high : Nat) (s : ByteArray) (i : Nat) (h : i < s.size) : okFrom low high s i = ((decide (low ≤ s[i].toNat) && decide (s[i].toNat ≤ high)) && okFrom low high s (i + 1)) := by
  unfold okFrom
  have h' : i < s.data.toList.length := by rw [ba_size]; exact h
  rw [List.drop_eq_getElem_cons h', List.all_cons]
  rfl
theorem bytesWithin_l0 (s : ByteArray) (low high : Nat) (hs : s.size ≤ 9223372036854775807) : ∀ (d i : Nat), i + d = s.size → Ev (fun k => impl_bytesWithin.l0 k s (low : Int) (high : Int) (s.size : Int) i) (okFrom low high s i) := by
  intro d
  induction d with
  | zero =>
    intro i hi
    refine Ev.succ ?_
    simp only [impl_bytesWithin.l0]
    obtain rfl : i = s.size := by omega
    rw [okFrom_end]
    exact Ev.neg (by omega) (Ev.now _)
  | succ d ih =>
    intro i hi
    have hlt : i < s.size := by omega
    refine Ev.succ ?_
    simp only [impl_bytesWithin.l0, bt_at_nat s i hlt, w64_succ hlt hs]
    rw [okFrom_succ _ _ _ _ hlt]
    refine Ev.pos (by omega) (Ev.pos (by omega) (Ev.pos (by omega) ?_))
    by_cases h1 : (s[i].toNat : Int) < (low : Int)
    · exact Ev.pos h1 (Ev.to (Ev.now _) (by simp; intro h; omega))
    · by_cases h2 : (s[i].toNat : Int) > (high : Int)
      · exact Ev.neg h1 (Ev.pos h2 (Ev.to (Ev.now _) (by simp; intro h; omega)))
      · refine Ev.neg h1 (Ev.neg h2 (Ev.to (ih (i + 1) (by omega)) ?_))
        rw [decide_eq_true (by omega : low ≤ s[i].toNat), decide_eq_true (by omega : s[i].toNat ≤ high)]
        rfl
theorem bytesWithin_ev (s : ByteArray) (low high : Nat) (hs : s.size ≤ 9223372036854775807) : Ev (fun k => impl_bytesWithin.f k s (low : Int) (high : Int)) (okBytes low high s) := by
  simp only [impl_bytesWithin.f]
  exact bytesWithin_l0 s low high hs s.size 0 (by omega)
/-- Is it a line of a report. -/
def isLine (s : ByteArray) : Bool := decide (s.size ≤ 100) && okBytes 32 126 s
theorem lineValid_ev (s : ByteArray) (hs : s.size ≤ 9223372036854775807) : Ev (fun k => impl_lineValid.f k s) (isLine s) := by
  simp only [impl_lineValid.f, isLine]
  by_cases h : (s.size : Int) ≤ 100
  · refine Ev.pos h (Ev.bind (bytesWithin_ev s 32 126 hs) (Ev.to (Ev.now _) ?_))
    rw [decide_eq_true (by omega : s.size ≤ 100)]
    rfl
  · refine Ev.neg h (Ev.to (Ev.now _) ?_)
    rw [decide_eq_false (by omega : ¬ s.size ≤ 100)]
    rfl
theorem l30Line_l0 (s : ByteArray) (hs : s.size ≤ 9223372036854775807) : ∀ (d i : Nat), i + d = s.size → Ev (fun k => spec_l30Line.l0 k s i) (decide (s.size ≤ 100) && okFrom 32 126 s i) := by
  intro d
  induction d with
  | zero =>
    intro i hi
    refine Ev.succ ?_
    simp only [spec_l30Line.l0]
    obtain rfl : i = s.size := by omega
    rw [okFrom_end, Bool.and_true]
    exact Ev.neg (by omega) (Ev.to (Ev.now _) (by simp; try omega))
  | succ d ih =>
    intro i hi
    have hlt : i < s.size := by omega
    refine Ev.succ ?_
    simp only [spec_l30Line.l0, bt_at_nat s i hlt, w64_succ hlt hs]
    rw [okFrom_succ _ _ _ _ hlt]
    refine Ev.pos (by omega) (Ev.pos (by omega) ?_)
    by_cases h1 : (s[i].toNat : Int) < 32
    · exact Ev.pos h1 (Ev.to (Ev.now _) (by simp; intros; omega))
    · by_cases h2 : (s[i].toNat : Int) > 126
      · exact Ev.neg h1 (Ev.pos h2 (Ev.to (Ev.now _) (by simp; intros; omega)))
      · refine Ev.neg h1 (Ev.neg h2 (Ev.to (ih (i + 1) (by omega)) ?_))
        rw [decide_eq_true (by omega : 32 ≤ s[i].toNat), decide_eq_true (by omega : s[i].toNat ≤ 126)]
        rfl
theorem l30Line_ev (s : ByteArray) (hs : s.size ≤ 9223372036854775807) : Ev (fun k => spec_l30Line.f k s) (isLine s) := by
  simp only [spec_l30Line.f]
  exact l30Line_l0 s hs s.size 0 (by omega)
/-- Are lines a report. -/
def isReport (l : List ByteArray) : Bool := decide (l.length ≤ 200) && l.all isLine
theorem l30Ok_l0 (l : List ByteArray) (hl : l.length ≤ 9223372036854775807) (hs : ∀ z ∈ l, z.size ≤ 9223372036854775807) : ∀ (d i : Nat), i + d = l.length →
    Ev (fun k => spec_l30Ok.l0 k l i) (decide (l.length ≤ 200) && (l.drop i).all isLine) := by
  intro d
  induction d with
  | zero =>
    intro i hi
    refine Ev.succ ?_
    simp only [spec_l30Ok.l0]
    rw [List.drop_of_length_le (by omega)]
    exact Ev.neg (by omega) (Ev.to (Ev.now _) (by simp; try omega))
  | succ d ih =>
    intro i hi
    have hlt : i < l.length := by omega
    refine Ev.succ ?_
    simp only [spec_l30Ok.l0, rdOf_at _ l i hlt, w64_succ hlt hl]
    rw [List.drop_eq_getElem_cons hlt, List.all_cons]
    refine Ev.pos (by omega) (Ev.pos (by omega) (Ev.bind (l30Line_ev l[i] (hs _ (List.getElem_mem hlt))) ?_))
    cases h : isLine l[i] with
    | true => exact Ev.pos rfl (ih (i + 1) (by omega))
    | false => exact Ev.neg (by decide) (Ev.to (Ev.now _) (by simp))
theorem l30Ok_ev (l : List ByteArray) (hl : l.length ≤ 9223372036854775807) (hs : ∀ z ∈ l, z.size ≤ 9223372036854775807) : Ev (fun k => spec_l30Ok.f k l) (isReport l) := by
  simp only [spec_l30Ok.f]
  exact l30Ok_l0 l hl hs l.length 0 (by omega)
theorem ValidReport_l0 (l : List ByteArray) (hl : l.length ≤ 9223372036854775807) (hs : ∀ z ∈ l, z.size ≤ 9223372036854775807) : ∀ (d i : Nat), i + d = l.length →
    Ev (fun k => impl_ValidReport.l0 k l (l.length : Int) i) ((l.drop i).all isLine) := by
  intro d
  induction d with
  | zero =>
    intro i hi
    refine Ev.succ ?_
    simp only [impl_ValidReport.l0]
    rw [List.drop_of_length_le (by omega)]
    exact Ev.neg (by omega) (Ev.now _)
  | succ d ih =>
    intro i hi
    have hlt : i < l.length := by omega
    refine Ev.succ ?_
    simp only [impl_ValidReport.l0, rdOf_at _ l i hlt, w64_succ hlt hl]
    rw [List.drop_eq_getElem_cons hlt, List.all_cons]
    refine Ev.pos (by omega) (Ev.pos (by omega) (Ev.pos (by omega) (Ev.bind (lineValid_ev l[i] (hs _ (List.getElem_mem hlt))) ?_)))
    cases h : isLine l[i] with
    | true => exact Ev.pos rfl (ih (i + 1) (by omega))
    | false => exact Ev.neg (by decide) (Ev.to (Ev.now _) (by simp))
theorem ValidReport_ev (l : List ByteArray) (hl : l.length ≤ 9223372036854775807) (hs : ∀ z ∈ l, z.size ≤ 9223372036854775807) : Ev (fun k => impl_ValidReport.f k l) (isReport l) := by
  simp only [impl_ValidReport.f, isReport]
  by_cases h : (l.length : Int) > 200
  · refine Ev.pos h (Ev.to (Ev.now _) ?_)
    rw [decide_eq_false (by omega : ¬ l.length ≤ 200)]
    rfl
  · refine Ev.neg h (Ev.to (ValidReport_l0 l hl hs l.length 0 (by omega)) ?_)
    rw [decide_eq_true (by omega : l.length ≤ 200)]
    rfl
end Go.Proofs.Ytpdggpfobbkdnaa.A
namespace Go.Proofs.Ytpdggpfobbkdnaa.A
open Go.RowKit Go.Proofs.YtpdggpfobbkdnaaW.PrintWords Go.Proofs.YtpdggpfobbkdnaaW.PrintLast Go.Proofs.YtpdggpfobbkdnaaW.PrintMore
theorem toInt64S_l0 (l : List Int) (hl : l.length ≤ 9223372036854775807) : ∀ (d i : Nat) (x : List Int), i + d = l.length → x.length = l.length → (∀ j, j < i → x[j]? = l[j]?) → Ev (fun k => laws_toInt64S.l0 k l x i) l := by
  intro d
  induction d with
  | zero =>
    intro i x hi hx hp
    refine Ev.succ ?_
    simp only [laws_toInt64S.l0]
    refine Ev.neg (by omega) (Ev.to (Ev.now x) ?_)
    refine List.ext_getElem? fun j => ?_
    by_cases hj : j < i
    · exact hp j hj
    · rw [List.getElem?_eq_none (by omega), List.getElem?_eq_none (by omega)]
  | succ d ih =>
    intro i x hi hx hp
    have hlt : i < l.length := by omega
    refine Ev.succ ?_
    simp only [laws_toInt64S.l0, rd_at l i hlt, w64_succ hlt hl]
    refine Ev.pos (by omega) (Ev.pos (by omega) (Ev.pos (by omega) (ih (i + 1) _ (by omega) (by simpa using hx) fun j hj => ?_)))
    rw [Int.toNat_natCast]
    by_cases e : i = j
    · subst e
      rw [List.getElem?_set_self (by omega), List.getElem?_eq_getElem hlt]
    · rw [List.getElem?_set_ne e]
      exact hp j (by omega)
theorem toInt64S_ev (l : List Int) (hl : l.length ≤ 1048576) : Ev (fun k => laws_toInt64S.f k l) l := by
  simp only [laws_toInt64S.f]
  exact Ev.pos (by omega) (Ev.pos (by omega) (toInt64S_l0 l (by omega) l.length 0 _ (by omega) (by simp) (fun j hj => absurd hj (by omega))))
/-- n signs '#'. -/
def bar (n : Nat) : ByteArray := ⟨(Lib.repeatL [35] n).toArray⟩
theorem bar_size (n : Nat) : (bar n).size = n := by
  have h := Lib.repeatL_length [35] n
  simp at h
  simp [bar, ByteArray.size, h]
theorem rep_succ (n : Nat) : Lib.repeatL [35] (n + 1) = Lib.repeatL [35] n ++ [35] := by
  induction n with
  | zero => rfl
  | succ n ih =>
    have e : Lib.repeatL [35] (n + 1 + 1) = [35] ++ Lib.repeatL [35] (n + 1) := rfl
    have e3 : [35] ++ Lib.repeatL [35] (n + 1) = [35] ++ (Lib.repeatL [35] n ++ [35]) := by rw [ih]
    rw [e, e3, ← List.append_assoc]
    rfl
theorem bar_succ (n : Nat) : bar n ++ (⟨#[35]⟩ : ByteArray) = bar (n + 1) := by
  refine bytes_ext ?_
  rw [toList_eq, toList_eq]
  simp [bar, rep_succ]
theorem Repeat_bar (n : Nat) (h : n ≤ 100) : strings_Repeat.f (⟨#[35]⟩ : ByteArray) (n : Int) = some (bar n) := by
  unfold strings_Repeat.f
  have e : (⟨#[35]⟩ : ByteArray).size = 1 := rfl
  rw [if_pos ⟨by omega, by omega, by rw [e]; omega⟩]
  rfl
/-- The greatest number from place i on, or m. -/
def mxFrom (l : List Int) (m : Int) (i : Nat) : Int := (l.drop i).foldl mx m
theorem mxFrom_end (l : List Int) (m : Int) : mxFrom l m l.length = m := by simp [mxFrom]
theorem mxFrom_succ (l : List Int) (m : Int) (i : Nat) (h : i < l.length) : mxFrom l m i = mxFrom l (mx m l[i]) (i + 1) := by
  unfold mxFrom
  rw [List.drop_eq_getElem_cons h, List.foldl_cons]
theorem mxFrom_ge (l : List Int) : ∀ (d i : Nat) (m : Int), i + d = l.length → m ≤ mxFrom l m i ∧ ∀ j (h : j < l.length), i ≤ j → l[j] ≤ mxFrom l m i := by
  intro d
  induction d with
  | zero =>
    intro i m hi
    have e : i = l.length := by omega
    subst e
    rw [mxFrom_end]
    exact ⟨Int.le_refl _, fun j h h' => absurd h (by omega)⟩
  | succ d ih =>
    intro i m hi
    have hlt : i < l.length := by omega
    have h := ih (i + 1) (mx m l[i]) (by omega)
    rw [mxFrom_succ l m i hlt]
    have h1 : m ≤ mx m l[i] ∧ l[i] ≤ mx m l[i] := by
      unfold mx
      split <;> omega
    refine ⟨Int.le_trans h1.1 h.1, fun j hj hij => ?_⟩
    by_cases e : i = j
    · subst e
      exact Int.le_trans h1.2 h.1
    · exact h.2 j hj (by omega)
theorem mxFrom_le (l : List Int) (c : Int) (hc : ∀ j (h : j < l.length), l[j] ≤ c) : ∀ (d i : Nat) (m : Int), i + d = l.length → m ≤ c → mxFrom l m i ≤ c := by
  intro d
  induction d with
  | zero =>
    intro i m hi hm
    have e : i = l.length := by omega
    subst e
    rwa [mxFrom_end]
  | succ d ih =>
    intro i m hi hm
    have hlt : i < l.length := by omega
    rw [mxFrom_succ l m i hlt]
    refine ih (i + 1) _ (by omega) ?_
    have := hc i hlt
    unfold mx
    split <;> omega
def inB (x : Int) : Bool := decide (0 ≤ x) && decide (x ≤ 1000000000000)
theorem l00In_eq (x a b : Int) : spec_l00In.f x a b = some (decide (a ≤ x) && decide (x ≤ b)) := by
  unfold spec_l00In.f
  by_cases e : x ≥ a
  · have e' : decide (a ≤ x) = true := decide_eq_true e
    rw [if_pos e, e', Bool.true_and]
  · have e' : decide (a ≤ x) = false := decide_eq_false e
    rw [if_neg e, e', Bool.false_and]
theorem within_eq (x a b : Int) : impl_within.f x a b = some (decide (a ≤ x) && decide (x ≤ b)) := by
  unfold impl_within.f
  by_cases e : x ≥ a
  · have e' : decide (a ≤ x) = true := decide_eq_true e
    rw [if_pos e, e', Bool.true_and]
  · have e' : decide (a ≤ x) = false := decide_eq_false e
    rw [if_neg e, e', Bool.false_and]
theorem l00Max_eq (a b : Int) : spec_l00Max.f a b = some (mx a b) := by
  unfold spec_l00Max.f mx
  by_cases e : a > b
  · rw [if_pos e, if_neg (by omega)]
  · rw [if_neg e]
    by_cases e2 : a < b
    · rw [if_pos e2]
    · rw [if_neg e2, show a = b by omega]
/-- The reference's first loop. -/
theorem specBar_l0 (l : List Int) (w : Int) (hl : l.length ≤ 1048576) (R : List ByteArray × Int) : ∀ (d i : Nat) (m : Int), i + d = l.length →
    ((l.drop i).all inB = true → (decide (1 ≤ w) && decide (w ≤ 100)) = true → Ev (fun k => spec_BarLines.l1 k l w (mxFrom l m i) [] 0) R) →
    (((l.drop i).all inB && (decide (1 ≤ w) && decide (w ≤ 100))) = false → R = ([], 2)) → Ev (fun k => spec_BarLines.l0 k l w m i) R := by
  intro d
  induction d with
  | zero =>
    intro i m hi h1 h2
    have e : i = l.length := by omega
    subst e
    rw [mxFrom_end] at h1
    rw [List.drop_length] at h1 h2
    refine Ev.succ ?_
    simp only [spec_BarLines.l0, l00In_eq]
    refine Ev.neg (by omega) ?_
    simp only [Option.bind_some]
    cases hw : (decide (1 ≤ w) && decide (w ≤ 100)) with
    | true => exact Ev.pos rfl (h1 rfl hw)
    | false =>
      rw [hw] at h2
      rw [h2 rfl]
      exact Ev.neg (by decide) (Ev.now _)
  | succ d ih =>
    intro i m hi h1 h2
    have hlt : i < l.length := by omega
    refine Ev.succ ?_
    simp only [spec_BarLines.l0, rd_at l i hlt, w64_succ hlt (by omega : l.length ≤ _), l00In_eq, l00Max_eq, Option.bind_some]
    refine Ev.pos (by omega) (Ev.pos (by omega) ?_)
    rw [List.drop_eq_getElem_cons hlt, List.all_cons] at h1 h2
    have e1 : inB l[i] = (decide (0 ≤ l[i]) && decide (l[i] ≤ 1000000000000)) := rfl
    cases hc : (decide (0 ≤ l[i]) && decide (l[i] ≤ 1000000000000)) with
    | true =>
      rw [e1, hc, Bool.true_and] at h1 h2
      rw [mxFrom_succ l m i hlt] at h1
      exact Ev.pos rfl (ih (i + 1) _ (by omega) h1 h2)
    | false =>
      rw [e1, hc] at h2
      simp only [Bool.false_and] at h2
      rw [h2 trivial]
      exact Ev.neg (by decide) (Ev.now _)
theorem implBar_l0 (l : List Int) (w : Int) (hl : l.length ≤ 1048576) (R : List ByteArray × Int) : ∀ (d i : Nat) (m : Int), i + d = l.length →
    Ev (fun k => impl_BarLines.l1 k w (mxFrom l m i) [] l (l.length : Int) 0) R → Ev (fun k => impl_BarLines.l0 k l w m l (l.length : Int) i) R := by
  intro d
  induction d with
  | zero =>
    intro i m hi h1
    have e : i = l.length := by omega
    subst e
    rw [mxFrom_end] at h1
    refine Ev.succ ?_
    simp only [impl_BarLines.l0]
    exact Ev.neg (by omega) h1
  | succ d ih =>
    intro i m hi h1
    have hlt : i < l.length := by omega
    refine Ev.succ ?_
    simp only [impl_BarLines.l0, rd_at l i hlt, w64_succ hlt (by omega : l.length ≤ _)]
    rw [mxFrom_succ l m i hlt] at h1
    exact Ev.pos (by omega) (Ev.pos (by omega) (Ev.pos (by omega) (ih (i + 1) _ (by omega) h1)))
/-- How long a bar is. -/
def qn (w m v : Int) : Nat := (Int.tdiv (v * w) (mx m 1)).toNat
def bars (l : List Int) (w m : Int) (i : Nat) : List ByteArray := (l.drop i).map fun v => bar (qn w m v)
theorem bars_end (l : List Int) (w m : Int) : bars l w m l.length = [] := by simp [bars]
theorem bars_succ (l : List Int) (w m : Int) (i : Nat) (h : i < l.length) : bars l w m i = bar (qn w m l[i]) :: bars l w m (i + 1) := by
  unfold bars
  rw [List.drop_eq_getElem_cons h, List.map_cons]
theorem qn_at (w m v : Int) (hw1 : 1 ≤ w) (hw2 : w ≤ 100) (hv0 : 0 ≤ v) (hv1 : v ≤ 1000000000000) (hm : v ≤ m) :
    wrap64 (v * w) = v * w ∧ (0 ≤ Int.tdiv (v * w) (mx m 1)) ∧ Int.tdiv (v * w) (mx m 1) ≤ 100 := by
  have h0 : 0 ≤ v * w := Int.mul_nonneg hv0 (by omega)
  have h1 : v * w ≤ 1000000000000 * 100 := Int.mul_le_mul hv1 hw2 (by omega) (by omega)
  have hM : 1 ≤ mx m 1 ∧ m ≤ mx m 1 := by
    unfold mx
    split <;> omega
  refine ⟨w64 (by omega) (by omega), Int.tdiv_nonneg h0 (by omega), ?_⟩
  rw [Int.tdiv_eq_ediv_of_nonneg h0]
  have h2 : v * w ≤ mx m 1 * 100 := Int.le_trans (Int.mul_le_mul hm hw2 (by omega) (by omega)) (Int.mul_le_mul hM.2 (Int.le_refl _) (by omega) (by omega))
  refine Int.ediv_le_of_le_mul (by omega) ?_
  rw [Int.mul_comm 100]
  exact h2
theorem ar1 {n d q : Nat} (h : n + (d + 1) = q) (hq : q ≤ 100) : n + 1 ≤ 100 := by omega
theorem ar2 {n d q : Nat} {t : Int} (h : n + (d + 1) = q) (e : (q : Int) = t) : (n : Int) < t := by omega
theorem ar3 {q : Nat} {t : Int} (e : (q : Int) = t) (h : t ≤ 100) : q ≤ 100 := by omega
theorem ar4 {n d q : Nat} (h : n + (d + 1) = q) : n + 1 + d = q := by omega
theorem ar5 {n : Nat} (h : n + 1 ≤ 100) : wrap64 ((n : Int) + 1) = ((n + 1 : Nat) : Int) := by
  rw [w64 (by omega) (by omega)]
  omega
theorem specBar_l2 (l : List Int) (w m : Int) (acc : List ByteArray) (R : List ByteArray × Int) (i : Nat) (h : i < l.length) (hl : l.length ≤ 1048576) (hm : 0 < m) (hw1 : 1 ≤ w) (hw2 : w ≤ 100) (hv0 : 0 ≤ l[i]) (hv1 : l[i] ≤ 1000000000000) (hvm : l[i] ≤ m)
    (ha : acc.length ≤ i) (hR : Ev (fun k => spec_BarLines.l1 k l w m (acc ++ [bar (qn w m l[i])]) ((i + 1 : Nat) : Int)) R) : ∀ (d n : Nat), n + d = qn w m l[i] → Ev (fun k => spec_BarLines.l2 k l w m acc i (bar n) n) R := by
  obtain ⟨q1, q2, q3⟩ := qn_at w m l[i] hw1 hw2 hv0 hv1 hvm
  have hM : mx m 1 = m := by
    unfold mx
    rw [if_neg (by omega)]
  have hq : ((qn w m l[i] : Nat) : Int) = Int.tdiv (l[i] * w) m := by
    unfold qn
    rw [Int.toNat_of_nonneg q2, hM]
  rw [hM] at q2 q3
  intro d
  induction d with
  | zero =>
    intro n hn
    refine Ev.succ ?_
    simp only [spec_BarLines.l2, rd_at l i h, w64_succ h (by omega : l.length ≤ _), q1, w64 (x := Int.tdiv (l[i] * w) m) (by omega) (by omega)]
    have e : n = qn w m l[i] := by omega
    subst e
    exact Ev.pos hm (Ev.pos (by omega) (Ev.pos (by omega) (Ev.neg (by omega) (Ev.neg (by omega) (Ev.pos (by omega) hR)))))
  | succ d ih =>
    intro n hn
    refine Ev.succ ?_
    simp only [spec_BarLines.l2, rd_at l i h, w64_succ h (by omega : l.length ≤ _), q1, w64 (x := Int.tdiv (l[i] * w) m) (by omega) (by omega), bar_succ]
    have c0 : n + 1 ≤ 100 := ar1 hn (ar3 hq q3)
    have c2 : (bar n).size + 1 ≤ 9223372036854775807 := by
      rw [bar_size]
      exact Nat.le_trans c0 (by decide)
    have c1 : (n : Int) < Int.tdiv (l[i] * w) m := ar2 hn hq
    have hn2 := ih (n + 1) (ar4 hn)
    rw [ar5 c0]
    refine Ev.pos hm (Ev.pos (by omega) (Ev.pos (by omega) (Ev.neg (by omega) (Ev.pos c1 ?_))))
    exact Ev.pos c2 hn2
theorem specBar_l2_zero (l : List Int) (w m : Int) (acc : List ByteArray) (R : List ByteArray × Int) (i : Nat) (h : i < l.length) (hl : l.length ≤ 1048576) (hm : m = 0) (hv : l[i] = 0)
    (ha : acc.length ≤ i) (hR : Ev (fun k => spec_BarLines.l1 k l w m (acc ++ [bar (qn w m l[i])]) ((i + 1 : Nat) : Int)) R) : Ev (fun k => spec_BarLines.l2 k l w m acc i (bar 0) 0) R := by
  have hq : qn w m l[i] = 0 := by
    unfold qn
    rw [hv, Int.zero_mul, Int.zero_tdiv]
    rfl
  rw [hq] at hR
  refine Ev.succ ?_
  simp only [spec_BarLines.l2, w64_succ h (by omega : l.length ≤ _)]
  exact Ev.neg (by omega) (Ev.pos (by omega) hR)
theorem bar0 : bar 0 = (⟨#[]⟩ : ByteArray) := rfl
theorem Bars_l1 (l : List Int) (w m : Int) (hl : l.length ≤ 1048576) (hw1 : 1 ≤ w) (hw2 : w ≤ 100) (hm0 : 0 ≤ m) (hv : ∀ j (h : j < l.length), 0 ≤ l[j] ∧ l[j] ≤ 1000000000000 ∧ l[j] ≤ m) : ∀ (d i : Nat) (acc : List ByteArray) (R : List ByteArray × Int), i + d = l.length → acc.length = i →
    (Ev (fun k => spec_l30Done.f k (acc ++ bars l w m i)) R → Ev (fun k => spec_BarLines.l1 k l w m acc i) R) ∧
    (Ev (fun k => impl_reportOrFull.f k (acc ++ bars l w m i)) R → Ev (fun k => impl_BarLines.l1 k w m acc l (l.length : Int) i) R) := by
  intro d
  induction d with
  | zero =>
    intro i acc R hi ha
    have e : i = l.length := by omega
    rw [e, bars_end, List.append_nil]
    refine ⟨fun h => Ev.succ ?_, fun h => Ev.succ ?_⟩
    · simp only [spec_BarLines.l1]
      refine Ev.neg (by omega) (Ev.bind h (Ev.now _))
    · simp only [impl_BarLines.l1]
      refine Ev.neg (by omega) (Ev.bind h (Ev.now _))
  | succ d ih =>
    intro i acc R hi ha
    have hlt : i < l.length := by omega
    obtain ⟨hv0, hv1, hvm⟩ := hv i hlt
    have hM1 : mx m 1 ≠ 0 := by
      unfold mx
      split <;> omega
    rw [bars_succ l w m i hlt]
    have ih2 := ih (i + 1) (acc ++ [bar (qn w m l[i])]) R (by omega) (by simp [ha])
    rw [List.append_assoc, List.singleton_append] at ih2
    refine ⟨fun h => Ev.succ ?_, fun h => Ev.succ ?_⟩
    · simp only [spec_BarLines.l1]
      refine Ev.pos (by omega) ?_
      have hR := ih2.1 h
      by_cases hm : m = 0
      · exact specBar_l2_zero l w m acc R i hlt hl hm (by omega) (by omega) hR
      · exact specBar_l2 l w m acc R i hlt hl (by omega) hw1 hw2 hv0 hv1 hvm (by omega) hR (qn w m l[i]) 0 (by omega)
    · obtain ⟨q1, q2, q3⟩ := qn_at w m l[i] hw1 hw2 hv0 hv1 hvm
      have hq : ((qn w m l[i] : Nat) : Int) = Int.tdiv (l[i] * w) (mx m 1) := Int.toNat_of_nonneg q2
      simp only [impl_BarLines.l1, rd_at l i hlt, w64_succ hlt (by omega : l.length ≤ _), q1, w64 (x := Int.tdiv (l[i] * w) (mx m 1)) (by omega) (by omega)]
      rw [← hq, Repeat_bar _ (by omega)]
      exact Ev.pos (by omega) (Ev.pos (by omega) (Ev.pos (by omega) (Ev.neg hM1 (Ev.pos (by omega) (ih2.2 h)))))
theorem bars_small (l : List Int) (w m : Int) (hw1 : 1 ≤ w) (hw2 : w ≤ 100) (hv : ∀ j (h : j < l.length), 0 ≤ l[j] ∧ l[j] ≤ 1000000000000 ∧ l[j] ≤ m) : ∀ z ∈ bars l w m 0, z.size ≤ 9223372036854775807 := by
  intro z hz
  simp only [bars, List.drop_zero, List.mem_map] at hz
  obtain ⟨v, hv', rfl⟩ := hz
  obtain ⟨j, hj, rfl⟩ := List.mem_iff_getElem.1 hv'
  obtain ⟨a, b, c⟩ := hv j hj
  obtain ⟨q1, q2, q3⟩ := qn_at w m l[j] hw1 hw2 a b c
  rw [bar_size]
  unfold qn
  omega
theorem Done_ev (l : List ByteArray) (hl : l.length ≤ 1048576) (hs : ∀ z ∈ l, z.size ≤ 9223372036854775807) :
    ∃ (r : List ByteArray) (c : Int), r.length ≤ 1048576 ∧ Ev (fun k => spec_l30Done.f k l) (r, c) ∧ Ev (fun k => impl_reportOrFull.f k l) (r, c) := by
  have a := l30Ok_ev l (by omega) hs
  have b := ValidReport_ev l (by omega) hs
  simp only [spec_l30Done.f, impl_reportOrFull.f]
  cases hr : isReport l with
  | true =>
    rw [hr] at a b
    exact ⟨l, 0, hl, Ev.bind a (Ev.pos rfl (Ev.now _)), Ev.bind b (Ev.pos rfl (Ev.now _))⟩
  | false =>
    rw [hr] at a b
    exact ⟨[], 5, by simp, Ev.bind a (Ev.neg (by decide) (Ev.now _)), Ev.bind b (Ev.neg (by decide) (Ev.now _))⟩
theorem BarLines_ev (l : List Int) (w : Int) (hl : l.length ≤ 1048576) :
    ∃ (r : List ByteArray) (c : Int), r.length ≤ 1048576 ∧ Ev (fun k => spec_BarLines.f k l w) (r, c) ∧ Ev (fun k => impl_BarLines.f k l w) (r, c) := by
  have hall : impl_allWithin.f l 0 1000000000000 = some (l.all inB) := by
    unfold impl_allWithin.f
    rw [if_pos (by omega)]
    rfl
  simp only [spec_BarLines.f, impl_BarLines.f, hall, within_eq, Option.bind_some]
  cases hb : l.all inB with
  | false =>
    refine ⟨[], 2, by simp, specBar_l0 l w hl _ l.length 0 0 (by omega) (fun h => ?_) (fun _ => rfl), Ev.neg (by decide) (Ev.succ ?_)⟩
    · rw [List.drop_zero, hb] at h
      exact absurd h (by decide)
    · simp only [impl_BarLines.j0]
      exact Ev.pos trivial (Ev.now _)
  | true =>
    cases hw : (decide (1 ≤ w) && decide (w ≤ 100)) with
    | false =>
      refine ⟨[], 2, by simp, specBar_l0 l w hl _ l.length 0 0 (by omega) (fun _ h => ?_) (fun _ => rfl), Ev.pos rfl (Ev.succ ?_)⟩
      · rw [hw] at h
        exact absurd h (by decide)
      · simp only [impl_BarLines.j0]
        exact Ev.pos rfl (Ev.now _)
    | true =>
      have hw' : 1 ≤ w ∧ w ≤ 100 := by simpa using hw
      have hin : ∀ j (h : j < l.length), 0 ≤ l[j] ∧ l[j] ≤ 1000000000000 := fun j h => by
        have := List.all_eq_true.1 hb l[j] (List.getElem_mem h)
        simpa [inB] using this
      have hge := mxFrom_ge l l.length 0 0 (by omega)
      have hv : ∀ j (h : j < l.length), 0 ≤ l[j] ∧ l[j] ≤ 1000000000000 ∧ l[j] ≤ mxFrom l 0 0 := fun j h => ⟨(hin j h).1, (hin j h).2, hge.2 j h (by omega)⟩
      obtain ⟨r, c, hr, h1, h2⟩ := Done_ev (bars l w (mxFrom l 0 0) 0) (by simp [bars]; omega) (bars_small l w _ hw'.1 hw'.2 hv)
      have hb1 := Bars_l1 l w (mxFrom l 0 0) hl hw'.1 hw'.2 hge.1 hv l.length 0 [] (r, c) (by omega) rfl
      refine ⟨r, c, hr, specBar_l0 l w hl _ l.length 0 0 (by omega) (fun _ _ => hb1.1 h1) (fun h => ?_), Ev.pos rfl (Ev.succ ?_)⟩
      · rw [List.drop_zero, hb, hw] at h
        exact absurd h (by decide)
      · simp only [impl_BarLines.j0]
        exact Ev.neg (by decide) (implBar_l0 l w hl _ l.length 0 0 (by omega) (hb1.2 h2))
end Go.Proofs.Ytpdggpfobbkdnaa.A
namespace Go.Proofs.Ytpdggpfobbkdnaa.A
open Go.RowKit Go.Proofs.YtpdggpfobbkdnaaW.PrintWords Go.Proofs.YtpdggpfobbkdnaaW.PrintLast
theorem FnExactBarLines : laws_FnExactBarLines.PureS := by
  rintro l w ⟨hl, _⟩ hw
  refine Ev.rounds (g := fun k => laws_FnExactBarLines.f k l w) ?_
  simp only [laws_FnExactBarLines.f]
  by_cases hbig : (l.length : Int) > 1048576
  · exact Ev.pos hbig (Ev.now _)
  refine Ev.neg hbig ?_
  have hl1 : l.length ≤ 1048576 := by omega
  obtain ⟨r, c, hr, h1, h2⟩ := BarLines_ev l w hl1
  have he := eqStringS_ev r (by omega)
  have ht2 := toInt64S_ev l hl1
  refine Ev.bind ht2 (Ev.bind h1 (Ev.bind ht2 (Ev.bind h2 (Ev.bind he (Ev.pos rfl (Ev.succ ?_))))))
  simp only [laws_FnExactBarLines.j0, bne_self_eq_false]
  refine Ev.neg (by decide) (Ev.bind ht2 (Ev.bind (eqInt64S_ev l (by omega)) (Ev.pos rfl (Ev.bind (markInt64S_ev l (by omega)) (Ev.neg (by omega) (Ev.bind he (Ev.pos rfl (Ev.succ ?_))))))))
  simp only [laws_FnExactBarLines.j1]
  refine Ev.neg (by decide) (Ev.bind (markStringS_marks r hr) (Ev.bind (heldStringS_ev r.length hr) (Ev.neg (by omega) (Ev.pos rfl (Ev.bind ht2 (Ev.bind h2 (Ev.bind he (Ev.pos rfl (Ev.succ ?_)))))))))
  simp only [laws_FnExactBarLines.j2, bne_self_eq_false]
  exact Ev.neg (by decide) (Ev.bind (heldStringS_ev r.length hr) (Ev.neg (by omega) (Ev.pos rfl (Ev.now _))))
end Go.Proofs.Ytpdggpfobbkdnaa.A
namespace Go.Proofs.Ytpdggpfobbkdnaa.Open
open Go.ChangeShapes Go.WideShapes Go.Deep Go.RowKit Go.Proofs.YtpdggpfobbkdnaaW.PrintWords
/-- Whatever reads at type t is a value of the kind d, and meets wf. -/
structure Opens {α : Type} (P : Program) (t : TypeId) (d : Kd α) (wf : α → Prop) : Prop where
  out : ∀ {H : Type} {enc : TypeId × Value → H} {w : World} {base : Nat} {spare : Nat → Bool} {held : Bool} {fuel : Nat} {cs : List Value} {x : DataW H × List MemPlace},
    DataW.trod enc P w base spare held fuel t cs = some x → ∃ v : α, d.K w v cs ∧ wf v
theorem opens_int {P : Program} {t : TypeId} {k : IntKind} (ht : P.underlying t = some (.int k)) : Opens P t (Kd.int k) (fun n => (Lit.int k n).wf = true) := by
  refine ⟨?_⟩
  intro H enc w base spare held fuel cs x h
  obtain ⟨n, rfl, _, hw⟩ := DataW.trod_int ht h
  exact ⟨n, rfl, hw⟩
theorem opens_string {P : Program} {t : TypeId} (ht : P.underlying t = some .string) : Opens P t Kd.string (fun s => s.size ≤ maxLen) := by
  refine ⟨?_⟩
  intro H enc w base spare held fuel cs x h
  obtain ⟨s, rfl, _, hw⟩ := DataW.trod_string ht h
  exact ⟨s, rfl, hw⟩
theorem opens_bool {P : Program} {t : TypeId} (ht : P.underlying t = some .bool) : Opens P t Kd.bool (fun _ => True) := by
  refine ⟨?_⟩
  intro H enc w base spare held fuel cs x h
  obtain ⟨b, rfl, _⟩ := DataW.trod_bool ht h
  exact ⟨b, rfl, trivial⟩
theorem opens_slice {α : Type} {P : Program} {t e : TypeId} {d : Kd α} {wf : α → Prop} (ht : P.underlying t = some (.slice e)) (hd : Opens P e d wf) (hc : P.cellsOf e = d.sz) :
    Opens P t (Kd.slice e d) (fun l => l.length ≤ maxLen ∧ ∀ x ∈ l, wf x) := by
  refine ⟨?_⟩
  intro H enc w base spare held fuel cs x h
  rcases open_slice ht h with ⟨rfl, _⟩ | ⟨a, len, cap, m, n, D, Pl, rfl, _, hl, hm, hmm, _, hi⟩
  · exact ⟨[], ⟨none, 0, rfl, Nat.le_refl _, ⟨rfl, by simp, fun h => absurd h (by simp)⟩⟩, by simp⟩
  · have hlm : len ≤ m := by
      rw [hmm]
      split
      · exact hl
      · exact Nat.le_refl _
    have each : ∀ i, i < len → ∃ v : α, (∃ cs', w.cells? base (a.add (i * d.sz)) d.sz = some cs' ∧ d.K w v cs') ∧ wf v := by
      intro i hil
      obtain ⟨cs', h1, h2⟩ := hi i (by omega)
      obtain ⟨v, h3, h4⟩ := hd.out h2
      rw [hc] at h1
      exact ⟨v, ⟨cs', h1, h3⟩, h4⟩
    have all : ∀ k, k ≤ len → ∃ l : List α, l.length = k ∧ ∀ i v, l[i]? = some v → (∃ cs', w.cells? base (a.add (i * d.sz)) d.sz = some cs' ∧ d.K w v cs') ∧ wf v := by
      intro k
      induction k with
      | zero => exact fun _ => ⟨[], rfl, fun i v h => by simp at h⟩
      | succ k ih =>
        intro hk
        obtain ⟨l, hl1, hl2⟩ := ih (by omega)
        obtain ⟨v, hv⟩ := each k (by omega)
        refine ⟨l ++ [v], by simp [hl1], fun i u hu => ?_⟩
        by_cases hik : i < k
        · rw [List.getElem?_append_left (by omega)] at hu
          exact hl2 i u hu
        · have hlt := (List.getElem?_eq_some_iff.1 hu).1
          simp [hl1] at hlt
          obtain rfl : i = k := by omega
          rw [List.getElem?_append_right (by omega), hl1, Nat.sub_self] at hu
          simp at hu
          subst hu
          exact hv
    obtain ⟨l, hl1, hl2⟩ := all len (Nat.le_refl _)
    refine ⟨l, ⟨some a, cap, by rw [hl1], by omega, ⟨rfl, by unfold maxLen at hm; omega, fun _ => ⟨a, rfl, fun j p hp => ?_⟩⟩⟩, by omega, fun x hx => ?_⟩
    · obtain ⟨⟨cs', hcs, hK⟩, _⟩ := hl2 j p hp
      obtain ⟨_, hcl, hat⟩ := World.cells?_some hcs
      refine ⟨cs', d.K_len hK, hK, fun i u hu => ?_⟩
      have hlt := (List.getElem?_eq_some_iff.1 hu).1
      have := hat i (by omega)
      rw [← Go.Deep.add_add, this, hu]
    · obtain ⟨i, hi'⟩ := List.getElem?_of_mem hx
      exact (hl2 i x hi').2
/-- The fields from a place on. -/
structure OpensF {α : Type} (P : Program) (fs : Array Field) (off tot : Nat) (d : Kd α) (wf : α → Prop) : Prop where
  out : ∀ {H : Type} {enc : TypeId × Value → H} {w : World} {base : Nat} {spare : Nat → Bool} {held : Bool} {n : Nat} {cs : List Value}, cs.length = tot →
    (∀ (j : Nat) (f : Field), fs[j]? = some f → ∃ y, DataW.trod enc P w base spare held n f.type ((cs.drop f.offset).take (P.cellsOf f.type)) = some y) → ∃ v : α, d.K w v (cs.drop off) ∧ wf v
theorem opensF_last {α : Type} {P : Program} {fs : Array Field} {off tot : Nat} {d : Kd α} {wf : α → Prop} (i : Nat) (f : Field) (hf : fs[i]? = some f) (ho : f.offset = off) (ht : off + P.cellsOf f.type = tot) (hd : Opens P f.type d wf) :
    OpensF P fs off tot d wf := by
  refine ⟨?_⟩
  intro H enc w base spare held n cs hl h
  obtain ⟨y, hy⟩ := h i f hf
  rw [ho, List.take_of_length_le (by rw [List.length_drop]; omega)] at hy
  exact hd.out hy
theorem opensF_cons {α β : Type} {P : Program} {fs : Array Field} {off tot : Nat} {d : Kd α} {wf : α → Prop} {d' : Kd β} {wf' : β → Prop} (i : Nat) (f : Field) (hf : fs[i]? = some f) (ho : f.offset = off) (hd : Opens P f.type d wf) (off' : Nat) (hoff : off + P.cellsOf f.type = off')
    (hr : OpensF P fs off' tot d' wf') : OpensF P fs off tot (Kd.pair d d') (fun p => wf p.1 ∧ wf' p.2) := by
  refine ⟨?_⟩
  intro H enc w base spare held n cs hl h
  obtain ⟨y, hy⟩ := h i f hf
  rw [ho] at hy
  obtain ⟨v, hv, hw⟩ := hd.out hy
  obtain ⟨v', hv', hw'⟩ := hr.out hl h
  refine ⟨(v, v'), ⟨_, _, ?_, hv, hv'⟩, hw, hw'⟩
  rw [← hoff, ← List.drop_drop, List.take_append_drop]
theorem opens_struct {α β : Type} {P : Program} {t : TypeId} {fs : Array Field} {tot : Nat} {d : Kd α} {wf : α → Prop} (f : β → α) (g : α → β) (hfg : ∀ x, f (g x) = x) (ht : P.underlying t = some (.struct fs)) (hc : P.cellsOf t = tot) (h : OpensF P fs 0 tot d wf) :
    Opens P t (Kd.iso d f) (fun b => wf (f b)) := by
  refine ⟨?_⟩
  intro H enc w base spare held fuel cs x hx
  obtain ⟨xs, n, _, _, hlen, hsz, hat⟩ := DataW.trod_struct ht hx
  obtain ⟨v, hv, hw⟩ := h.out (w := w) (enc := enc) (base := base) (spare := spare) (held := held) (n := n) (cs := cs) (hlen.trans hc) (fun j fl hj => by
    have hlt : j < xs.length := by
      have := (Array.getElem?_eq_some_iff.1 hj).1
      omega
    exact ⟨xs[j], (hat j fl hj).trans (List.getElem?_eq_getElem hlt)⟩)
  refine ⟨g v, ?_, ?_⟩
  · show d.K w (f (g v)) cs
    rw [hfg]
    exact hv
  · show wf (f (g v))
    rw [hfg]
    exact hw
/-- A slice argument, opened. -/
theorem arg_slice {α H : Type} {enc : TypeId × Value → H} {P : Program} {W : World} {base : Nat} {spare : Nat → Bool} {held : Bool} {t e : TypeId} {d : Kd α} {wf : List α → Prop} {a : Option Addr} {len cap : Nat} {x : DataW H} {ps : List MemPlace}
    (ho : Opens P t (Kd.slice e d) wf) (h : DataW.Trod enc P W base spare held t (.slice a len cap) x ps) :
    ∃ l : List α, len = l.length ∧ l.length ≤ cap ∧ Kd.C d W a l.length l ∧ wf l := by
  obtain ⟨fuel, hf⟩ := h
  obtain ⟨l, ⟨A, c, hcs, hl, hC⟩, hw⟩ := ho.out hf
  simp [Value.cells] at hcs
  obtain ⟨rfl, rfl, rfl⟩ := hcs
  exact ⟨l, rfl, hl, hC, hw⟩
/-- A struct argument, opened. -/
theorem arg_struct {α H : Type} {enc : TypeId × Value → H} {P : Program} {W : World} {base : Nat} {spare : Nat → Bool} {held : Bool} {t : TypeId} {d : Kd α} {wf : α → Prop} {cs : Array Value} {x : DataW H} {ps : List MemPlace}
    (ho : Opens P t d wf) (h : DataW.Trod enc P W base spare held t (.agg cs) x ps) : ∃ v : α, d.K W v cs.toList ∧ wf v := by
  obtain ⟨fuel, hf⟩ := h
  obtain ⟨v, hv, hw⟩ := ho.out hf
  exact ⟨v, by simpa [Value.cells] using hv, hw⟩
end Go.Proofs.Ytpdggpfobbkdnaa.Open
