/- Part 5 of the proof of FnBlocksSaid: the functions that the law runs as plain Lean functions, the contracts of their calls, and plain facts about them. Condition: none beyond each theorem's own hypotheses. -/
import Derived.Test.YtdcpccbhhoohkaaCFnBlocks0
import Derived.Test.YtdcpccbhhoohkaaCFnBlocks2
import Derived.Test.YtdcpccbhhoohkaaVFnBlocksWords
import Derived.Test.YtdcpccbhhoohkaaVFnBlocksLast
import Derived.Test.YtdcpccbhhoohkaaVFnBlocksTab
import Derived.Test.YtdcpccbhhoohkaaVFnBlocksFour
import Derived.Test.YtdcpccbhhoohkaaVFnBlocksQPut
import Derived.Test.YtdcpccbhhoohkaaVFnBlocksApart
import Derived.Test.YtdcpccbhhoohkaaVFnBlocksArr
import Derived.Test.YtdcpccbhhoohkaaVFnBlocksZeros
import Derived.Test.YtdcpccbhhoohkaaVFnBlocksFoot
import Derived.Test.YtdcpccbhhoohkaaVFnBlocksKept
import Derived.Test.YtdcpccbhhoohkaaVFnBlocksShare
import Derived.Test.YtdcpccbhhoohkaaVFnBlocksN
import Derived.Test.YtdcpccbhhoohkaaVFnBlocksFootNe
import Derived.Test.YtdcpccbhhoohkaaVFnBlocksAt
import Derived.Test.YtdcpccbhhoohkaaVFnBlocksEqStruct
import Derived.Test.YtdcpccbhhoohkaaVFnBlocksRepsOne
import Derived.Test.YtdcpccbhhoohkaaVFnBlocksInv
import Derived.Test.YtdcpccbhhoohkaaVFnBlocksInvWords
import Derived.Test.YtdcpccbhhoohkaaVFnBlocksGuard
import Derived.Test.YtdcpccbhhoohkaaVFnBlocksNEv
import Derived.Test.YtdcpccbhhoohkaaVFnBlocksMore
import Derived.Test.YtdcpccbhhoohkaaCFnBlocks1
import Derived.Lib.IndexMore
import Derived.Lib.IndexAny
import Derived.Lib.IndexBytes
import Derived.Deep.Slices
import Derived.Deep.Fields
import Derived.ChangeSame
import Derived.ProofKit
import Derived.Test.YtdcpccbhhoohkaaCFnBlocks3
section
namespace Go.Proofs.Ytdcpccbhhoohkaa.A
open Go.RowKit Go.Proofs.YtdcpccbhhoohkaaW.PrintWords Go.Proofs.YtdcpccbhhoohkaaW.PrintLast Go.Proofs.YtdcpccbhhoohkaaW.PrintMore
attribute [local go_sem] max2_int min2_int max_two min_two max_three min_three max_four min_four   -- for this text's walks alone
set_option linter.unusedVariables false
set_option linter.unusedSimpArgs false
mutual
def laws_FnBlocks.j0 : Nat → List (S27) → List (S27) → List (S27) → Bool → Option (Bool)
  | 0, _, _, _, _ => none
  | k + 1, x5, x6, x14, x93 => if x93 = true then (some false) else (laws_FnBlocks.l0 k x5 x6 x14 0)
def laws_FnBlocks.l0 : Nat → List (S27) → List (S27) → List (S27) → Int → Option (Bool)
  | 0, _, _, _, _ => none
  | k + 1, x5, x6, x14, x18 => if x18 < (x6.length : Int) then (if 0 ≤ x18 then ((impl_BlockNamed.f k x14 ((rd_T27 x6 x18).f0) ((rd_T27 x6 x18).f1)).bind fun bt131 => (if bt131.2 = 0 then (if bt131.1.toList = ((rd_T27 x6 x18).f2).toList then (laws_FnBlocks.l0 k x5 x6 x14 (wrap64 (x18 + 1))) else (some false)) else (some false))) else (none)) else (some (decide ((x14.length : Int) ≤ (wrap64 ((x5.length : Int) + (x6.length : Int))))))
end
def laws_FnBlocks.f (k : Nat) (l0 : List Int) (l1 : List Int) : Option (Bool) := (laws_r8Long.f l0 l1).bind fun t101 => (if t101 = true then (some true) else ((spec_R8Blocks.f k l0).bind fun t102 => ((spec_R8Blocks.f k l1).bind fun t105 => ((impl_PutBlock.f k t102 (⟨#[110, 101, 119]⟩ : ByteArray) (⟨#[120]⟩ : ByteArray) (⟨#[116]⟩ : ByteArray)).bind fun bt109 => ((impl_BlockNamed.f k bt109.1 (⟨#[110, 101, 119]⟩ : ByteArray) (⟨#[120]⟩ : ByteArray)).bind fun bt113 => ((impl_DropBlock.f k bt109.1 (⟨#[110, 101, 119]⟩ : ByteArray) (⟨#[120]⟩ : ByteArray)).bind fun bt115 => ((impl_MergeBlocks.f k t102 t105).bind fun bt119 => ((impl_BlocksOfKind.f k bt109.1 (⟨#[110, 101, 119]⟩ : ByteArray)).bind fun bt123 => (if bt109.2 = 0 then (if bt113.2 = 0 then (if bt113.1.toList = ([116] : List UInt8) then (if bt115.2 = 0 then ((spec_SameBlocks.f k bt115.1 t102).bind fun t127 => (if t127 = true then (if bt119.2 = 0 then ((spec_ValidBlocks.f k bt119.1).bind fun t128 => (if t128 = true then (if bt123.2 = 0 then (laws_FnBlocks.j0 k t102 t105 bt119.1 ((bt123.1.length : Int) != 1)) else (laws_FnBlocks.j0 k t102 t105 bt119.1 true)) else (laws_FnBlocks.j0 k t102 t105 bt119.1 true))) else (laws_FnBlocks.j0 k t102 t105 bt119.1 true)) else (laws_FnBlocks.j0 k t102 t105 bt119.1 true))) else (laws_FnBlocks.j0 k t102 t105 bt119.1 true)) else (laws_FnBlocks.j0 k t102 t105 bt119.1 true)) else (laws_FnBlocks.j0 k t102 t105 bt119.1 true)) else (laws_FnBlocks.j0 k t102 t105 bt119.1 true))))))))))
theorem laws_FnBlocks.mono_l : ∀ k, (∀ y0 y1 y2 y3, LeO (laws_FnBlocks.j0 k y0 y1 y2 y3) (laws_FnBlocks.j0 (k + 1) y0 y1 y2 y3)) ∧ (∀ y0 y1 y2 y3, LeO (laws_FnBlocks.l0 k y0 y1 y2 y3) (laws_FnBlocks.l0 (k + 1) y0 y1 y2 y3))
  | 0 => ⟨fun _ _ _ _ r h => by simp [laws_FnBlocks.j0] at h, fun _ _ _ _ r h => by simp [laws_FnBlocks.l0] at h⟩
  | k + 1 => by
    obtain ⟨ih0, ih1⟩ := laws_FnBlocks.mono_l k
    refine ⟨?_, ?_⟩
    · intro y0 y1 y2 y3
      unfold laws_FnBlocks.j0
      repeat' first
      | (with_reducible exact ih0 _ _ _ _)
      | (with_reducible exact ih1 _ _ _ _)
      | (with_reducible exact impl_BlockNamed.mono _ _ _ _)
      | (with_reducible exact impl_BlocksOfKind.mono _ _ _)
      | (with_reducible exact impl_DropBlock.mono _ _ _ _)
      | (with_reducible exact impl_MergeBlocks.mono _ _ _)
      | (with_reducible exact impl_PutBlock.mono _ _ _ _ _)
      | (with_reducible exact spec_R8Blocks.mono _ _)
      | (with_reducible exact spec_SameBlocks.mono _ _ _)
      | (with_reducible exact spec_ValidBlocks.mono _ _)
      | (with_reducible exact LeO.refl _)
      | (with_reducible exact LeO.none _)
      | (with_reducible refine LeO.ite ?_ ?_)
      | (with_reducible refine LeO.bind ?_ (fun _ => ?_))
      | exact ih0 _ _ _ _
      | exact ih1 _ _ _ _
      | exact impl_BlockNamed.mono _ _ _ _
      | exact impl_BlocksOfKind.mono _ _ _
      | exact impl_DropBlock.mono _ _ _ _
      | exact impl_MergeBlocks.mono _ _ _
      | exact impl_PutBlock.mono _ _ _ _ _
      | exact spec_R8Blocks.mono _ _
      | exact spec_SameBlocks.mono _ _ _
      | exact spec_ValidBlocks.mono _ _
      | exact LeO.none _
      | refine LeO.ite ?_ ?_
      | refine LeO.bind ?_ (fun _ => ?_)
    · intro y0 y1 y2 y3
      unfold laws_FnBlocks.l0
      repeat' first
      | (with_reducible exact ih0 _ _ _ _)
      | (with_reducible exact ih1 _ _ _ _)
      | (with_reducible exact impl_BlockNamed.mono _ _ _ _)
      | (with_reducible exact impl_BlocksOfKind.mono _ _ _)
      | (with_reducible exact impl_DropBlock.mono _ _ _ _)
      | (with_reducible exact impl_MergeBlocks.mono _ _ _)
      | (with_reducible exact impl_PutBlock.mono _ _ _ _ _)
      | (with_reducible exact spec_R8Blocks.mono _ _)
      | (with_reducible exact spec_SameBlocks.mono _ _ _)
      | (with_reducible exact spec_ValidBlocks.mono _ _)
      | (with_reducible exact LeO.refl _)
      | (with_reducible exact LeO.none _)
      | (with_reducible refine LeO.ite ?_ ?_)
      | (with_reducible refine LeO.bind ?_ (fun _ => ?_))
      | exact ih0 _ _ _ _
      | exact ih1 _ _ _ _
      | exact impl_BlockNamed.mono _ _ _ _
      | exact impl_BlocksOfKind.mono _ _ _
      | exact impl_DropBlock.mono _ _ _ _
      | exact impl_MergeBlocks.mono _ _ _
      | exact impl_PutBlock.mono _ _ _ _ _
      | exact spec_R8Blocks.mono _ _
      | exact spec_SameBlocks.mono _ _ _
      | exact spec_ValidBlocks.mono _ _
      | exact LeO.none _
      | refine LeO.ite ?_ ?_
      | refine LeO.bind ?_ (fun _ => ?_)
theorem laws_FnBlocks.mono : ∀ a0 a1 k, LeO (laws_FnBlocks.f k a0 a1) (laws_FnBlocks.f (k + 1) a0 a1) := by
  intro a0 a1 k
  obtain ⟨ih0, ih1⟩ := laws_FnBlocks.mono_l k
  unfold laws_FnBlocks.f
  repeat' first
      | (with_reducible exact ih0 _ _ _ _)
      | (with_reducible exact ih1 _ _ _ _)
      | (with_reducible exact impl_BlockNamed.mono _ _ _ _)
      | (with_reducible exact impl_BlocksOfKind.mono _ _ _)
      | (with_reducible exact impl_DropBlock.mono _ _ _ _)
      | (with_reducible exact impl_MergeBlocks.mono _ _ _)
      | (with_reducible exact impl_PutBlock.mono _ _ _ _ _)
      | (with_reducible exact spec_R8Blocks.mono _ _)
      | (with_reducible exact spec_SameBlocks.mono _ _ _)
      | (with_reducible exact spec_ValidBlocks.mono _ _)
      | (with_reducible exact LeO.refl _)
      | (with_reducible exact LeO.none _)
      | (with_reducible refine LeO.ite ?_ ?_)
      | (with_reducible refine LeO.bind ?_ (fun _ => ?_))
      | exact ih0 _ _ _ _
      | exact ih1 _ _ _ _
      | exact impl_BlockNamed.mono _ _ _ _
      | exact impl_BlocksOfKind.mono _ _ _
      | exact impl_DropBlock.mono _ _ _ _
      | exact impl_MergeBlocks.mono _ _ _
      | exact impl_PutBlock.mono _ _ _ _ _
      | exact spec_R8Blocks.mono _ _
      | exact spec_SameBlocks.mono _ _ _
      | exact spec_ValidBlocks.mono _ _
      | exact LeO.none _
      | refine LeO.ite ?_ ?_
      | refine LeO.bind ?_ (fun _ => ?_)
def laws_FnBlocks.T16 : Bool × List (List Nat × List Nat) := (true, [([], []), ([], []), ([], []), ([1, 2], [1, 2]), ([3], [3]), ([4], [4]), ([], []), ([], []), ([6, 7], [6, 7]), ([8], [8]), ([9], [9]), ([0, 5, 10], [0, 5, 10]), ([11], [11]), ([12], [12]), ([12], [12]), ([13, 11, 0, 1, 2, 3, 4, 5, 6, 7, 8, 9, 10, 11, 12, 13], [13]), ([14, 15, 0, 1, 2, 3, 4, 5, 6, 7, 8, 9, 10, 11, 12, 13, 14, 15], [14])])
def laws_FnBlocks.B16 : List Nat := [0, 0, 0, 6, 14, 30, 0, 0, 192, 448, 960, 2047, 4095, 8191, 8191, 16383, 65535]
theorem laws_FnBlocks.tab16 : rtab .any (opsOf Try.f3 16) = laws_FnBlocks.T16 := by kernel_rfl
theorem laws_FnBlocks.bits16 : waitsOk laws_FnBlocks.T16.2 laws_FnBlocks.B16 = true := by kernel_rfl
set_option maxHeartbeats 8000000 in
set_option maxRecDepth 100000 in
theorem laws_FnBlocks.calls (k : Nat) (A0 : Option Addr) (c0 : Nat) (l0 : List Int) (A1 : Option Addr) (c1 : Nat) (l1 : List Int) (r : Bool) (w : World) (hr0 : Kd.C (Kd.int .u8) w A0 l0.length l0) (hc0 : l0.length ≤ c0) (hr1 : Kd.C (Kd.int .u8) w A1 l1.length l1) (hc1 : l1.length ≤ c1) (h : laws_FnBlocks.f k l0 l1 = some r) (hV : HasV w) :
    Calls Try.prog 3 #[.slice A0 l0.length c0, .slice A1 l1.length c1] w fun e w' => e = .returned (.bool r) ∧ Below w.heap.size w w' := by
  have HV := Aside0.mk hV
  clear hV
  have hu27 := Try.underlying27
  have HR0 := Aside0.mk hr0
  have HC0 := Aside0.mk hc0
  clear hr0 hc0
  have HR1 := Aside0.mk hr1
  have HC1 := Aside0.mk hc1
  clear hr1 hc1
  have HB := Aside0.mk (Below.refl w.heap.size w)
  have H : ((laws_r8Long.f l0 l1).bind fun t101 => (if t101 = true then (some true) else ((spec_R8Blocks.f k l0).bind fun t102 => ((spec_R8Blocks.f k l1).bind fun t105 => ((impl_PutBlock.f k t102 (⟨#[110, 101, 119]⟩ : ByteArray) (⟨#[120]⟩ : ByteArray) (⟨#[116]⟩ : ByteArray)).bind fun bt109 => ((impl_BlockNamed.f k bt109.1 (⟨#[110, 101, 119]⟩ : ByteArray) (⟨#[120]⟩ : ByteArray)).bind fun bt113 => ((impl_DropBlock.f k bt109.1 (⟨#[110, 101, 119]⟩ : ByteArray) (⟨#[120]⟩ : ByteArray)).bind fun bt115 => ((impl_MergeBlocks.f k t102 t105).bind fun bt119 => ((impl_BlocksOfKind.f k bt109.1 (⟨#[110, 101, 119]⟩ : ByteArray)).bind fun bt123 => (if bt109.2 = 0 then (if bt113.2 = 0 then (if bt113.1.toList = ([116] : List UInt8) then (if bt115.2 = 0 then ((spec_SameBlocks.f k bt115.1 t102).bind fun t127 => (if t127 = true then (if bt119.2 = 0 then ((spec_ValidBlocks.f k bt119.1).bind fun t128 => (if t128 = true then (if bt123.2 = 0 then (laws_FnBlocks.j0 k t102 t105 bt119.1 ((bt123.1.length : Int) != 1)) else (laws_FnBlocks.j0 k t102 t105 bt119.1 true)) else (laws_FnBlocks.j0 k t102 t105 bt119.1 true))) else (laws_FnBlocks.j0 k t102 t105 bt119.1 true)) else (laws_FnBlocks.j0 k t102 t105 bt119.1 true))) else (laws_FnBlocks.j0 k t102 t105 bt119.1 true)) else (laws_FnBlocks.j0 k t102 t105 bt119.1 true)) else (laws_FnBlocks.j0 k t102 t105 bt119.1 true)) else (laws_FnBlocks.j0 k t102 t105 bt119.1 true))))))))))) = some r := h
  clear h
  replace H := Option.bind_eq_some_iff.mp H
  obtain ⟨t101, A30, H⟩ := H
  replace H : (if t101 = true then (some true) else ((spec_R8Blocks.f k l0).bind fun t102 => ((spec_R8Blocks.f k l1).bind fun t105 => ((impl_PutBlock.f k t102 (⟨#[110, 101, 119]⟩ : ByteArray) (⟨#[120]⟩ : ByteArray) (⟨#[116]⟩ : ByteArray)).bind fun bt109 => ((impl_BlockNamed.f k bt109.1 (⟨#[110, 101, 119]⟩ : ByteArray) (⟨#[120]⟩ : ByteArray)).bind fun bt113 => ((impl_DropBlock.f k bt109.1 (⟨#[110, 101, 119]⟩ : ByteArray) (⟨#[120]⟩ : ByteArray)).bind fun bt115 => ((impl_MergeBlocks.f k t102 t105).bind fun bt119 => ((impl_BlocksOfKind.f k bt109.1 (⟨#[110, 101, 119]⟩ : ByteArray)).bind fun bt123 => (if bt109.2 = 0 then (if bt113.2 = 0 then (if bt113.1.toList = ([116] : List UInt8) then (if bt115.2 = 0 then ((spec_SameBlocks.f k bt115.1 t102).bind fun t127 => (if t127 = true then (if bt119.2 = 0 then ((spec_ValidBlocks.f k bt119.1).bind fun t128 => (if t128 = true then (if bt123.2 = 0 then (laws_FnBlocks.j0 k t102 t105 bt119.1 ((bt123.1.length : Int) != 1)) else (laws_FnBlocks.j0 k t102 t105 bt119.1 true)) else (laws_FnBlocks.j0 k t102 t105 bt119.1 true))) else (laws_FnBlocks.j0 k t102 t105 bt119.1 true)) else (laws_FnBlocks.j0 k t102 t105 bt119.1 true))) else (laws_FnBlocks.j0 k t102 t105 bt119.1 true)) else (laws_FnBlocks.j0 k t102 t105 bt119.1 true)) else (laws_FnBlocks.j0 k t102 t105 bt119.1 true)) else (laws_FnBlocks.j0 k t102 t105 bt119.1 true)))))))))) = some r := H
  have A3 := Aside0.mk A30
  clear A30
  by_cases c4 : t101 = true
  · subst c4
    have H1 : (some true) = some r := by rw [if_pos rfl] at H; exact H
    clear H
    have H := H1
    clear H1
    obtain rfl := Option.some.inj H
    go_enter Try.func3, Try.ntmps3
    go_wp2_with (first | ((with_reducible refine gate_callee (f := 6) rfl ?_); refine goesL_ (some 23) rfl rfl Try.func6 (by kernel_rfl) rfl #[.slice A0 l0.length c0, .slice A1 l1.length c1] rfl (by (try simp only [List.map_toArray, List.map_cons, List.map_nil]); first | done | rfl | (simp only [List.length_drop, List.length_take]; rfl)) ?_; (with_reducible refine (laws_r8Long.calls _ _ l0 _ _ l1 true _ ?side1 ?side2 ?side3 ?side4 A3.out).mono ?_); (case side1 => repeat (first | exact HR0.out | (with_reducible refine Kd.C_alloc ?_ _) | (with_reducible refine Kd.C_drewN ?_ _) | (with_reducible refine Kd.C_drew ?_))); (case side2 => exact HC0.out); (case side3 => repeat (first | exact HR1.out | (with_reducible refine Kd.C_alloc ?_ _) | (with_reducible refine Kd.C_drewN ?_ _) | (with_reducible refine Kd.C_drew ?_))); (case side4 => exact HC1.out); rintro e w' ⟨rfl, ⟨nd, rfl⟩⟩; refine ⟨_, rfl, ?_⟩))
    go_ret
    exact ⟨by first | rfl | (simp [errW_none, errW_some] <;> rfl) | (simp [*, errW_none, errW_some] <;> rfl), by repeat (first | (with_reducible first | exact HB.out | apply below_alloc | apply pw_below_drewN | apply below_drew1) | exact HB.out)⟩
  · replace c4 := Bool.eq_false_iff.mpr c4
    subst c4
    have H1 : ((spec_R8Blocks.f k l0).bind fun t102 => ((spec_R8Blocks.f k l1).bind fun t105 => ((impl_PutBlock.f k t102 (⟨#[110, 101, 119]⟩ : ByteArray) (⟨#[120]⟩ : ByteArray) (⟨#[116]⟩ : ByteArray)).bind fun bt109 => ((impl_BlockNamed.f k bt109.1 (⟨#[110, 101, 119]⟩ : ByteArray) (⟨#[120]⟩ : ByteArray)).bind fun bt113 => ((impl_DropBlock.f k bt109.1 (⟨#[110, 101, 119]⟩ : ByteArray) (⟨#[120]⟩ : ByteArray)).bind fun bt115 => ((impl_MergeBlocks.f k t102 t105).bind fun bt119 => ((impl_BlocksOfKind.f k bt109.1 (⟨#[110, 101, 119]⟩ : ByteArray)).bind fun bt123 => (if bt109.2 = 0 then (if bt113.2 = 0 then (if bt113.1.toList = ([116] : List UInt8) then (if bt115.2 = 0 then ((spec_SameBlocks.f k bt115.1 t102).bind fun t127 => (if t127 = true then (if bt119.2 = 0 then ((spec_ValidBlocks.f k bt119.1).bind fun t128 => (if t128 = true then (if bt123.2 = 0 then (laws_FnBlocks.j0 k t102 t105 bt119.1 ((bt123.1.length : Int) != 1)) else (laws_FnBlocks.j0 k t102 t105 bt119.1 true)) else (laws_FnBlocks.j0 k t102 t105 bt119.1 true))) else (laws_FnBlocks.j0 k t102 t105 bt119.1 true)) else (laws_FnBlocks.j0 k t102 t105 bt119.1 true))) else (laws_FnBlocks.j0 k t102 t105 bt119.1 true)) else (laws_FnBlocks.j0 k t102 t105 bt119.1 true)) else (laws_FnBlocks.j0 k t102 t105 bt119.1 true)) else (laws_FnBlocks.j0 k t102 t105 bt119.1 true))))))))) = some r := by rw [if_neg (show ¬ (false = true) by decide)] at H; exact H
    clear H
    have H := H1
    clear H1
    replace H := Option.bind_eq_some_iff.mp H
    obtain ⟨t102, A50, H⟩ := H
    replace H : ((spec_R8Blocks.f k l1).bind fun t105 => ((impl_PutBlock.f k t102 (⟨#[110, 101, 119]⟩ : ByteArray) (⟨#[120]⟩ : ByteArray) (⟨#[116]⟩ : ByteArray)).bind fun bt109 => ((impl_BlockNamed.f k bt109.1 (⟨#[110, 101, 119]⟩ : ByteArray) (⟨#[120]⟩ : ByteArray)).bind fun bt113 => ((impl_DropBlock.f k bt109.1 (⟨#[110, 101, 119]⟩ : ByteArray) (⟨#[120]⟩ : ByteArray)).bind fun bt115 => ((impl_MergeBlocks.f k t102 t105).bind fun bt119 => ((impl_BlocksOfKind.f k bt109.1 (⟨#[110, 101, 119]⟩ : ByteArray)).bind fun bt123 => (if bt109.2 = 0 then (if bt113.2 = 0 then (if bt113.1.toList = ([116] : List UInt8) then (if bt115.2 = 0 then ((spec_SameBlocks.f k bt115.1 t102).bind fun t127 => (if t127 = true then (if bt119.2 = 0 then ((spec_ValidBlocks.f k bt119.1).bind fun t128 => (if t128 = true then (if bt123.2 = 0 then (laws_FnBlocks.j0 k t102 t105 bt119.1 ((bt123.1.length : Int) != 1)) else (laws_FnBlocks.j0 k t102 t105 bt119.1 true)) else (laws_FnBlocks.j0 k t102 t105 bt119.1 true))) else (laws_FnBlocks.j0 k t102 t105 bt119.1 true)) else (laws_FnBlocks.j0 k t102 t105 bt119.1 true))) else (laws_FnBlocks.j0 k t102 t105 bt119.1 true)) else (laws_FnBlocks.j0 k t102 t105 bt119.1 true)) else (laws_FnBlocks.j0 k t102 t105 bt119.1 true)) else (laws_FnBlocks.j0 k t102 t105 bt119.1 true)))))))) = some r := H
    have A5 := Aside0.mk A50
    clear A50
    replace H := Option.bind_eq_some_iff.mp H
    obtain ⟨t105, A60, H⟩ := H
    replace H : ((impl_PutBlock.f k t102 (⟨#[110, 101, 119]⟩ : ByteArray) (⟨#[120]⟩ : ByteArray) (⟨#[116]⟩ : ByteArray)).bind fun bt109 => ((impl_BlockNamed.f k bt109.1 (⟨#[110, 101, 119]⟩ : ByteArray) (⟨#[120]⟩ : ByteArray)).bind fun bt113 => ((impl_DropBlock.f k bt109.1 (⟨#[110, 101, 119]⟩ : ByteArray) (⟨#[120]⟩ : ByteArray)).bind fun bt115 => ((impl_MergeBlocks.f k t102 t105).bind fun bt119 => ((impl_BlocksOfKind.f k bt109.1 (⟨#[110, 101, 119]⟩ : ByteArray)).bind fun bt123 => (if bt109.2 = 0 then (if bt113.2 = 0 then (if bt113.1.toList = ([116] : List UInt8) then (if bt115.2 = 0 then ((spec_SameBlocks.f k bt115.1 t102).bind fun t127 => (if t127 = true then (if bt119.2 = 0 then ((spec_ValidBlocks.f k bt119.1).bind fun t128 => (if t128 = true then (if bt123.2 = 0 then (laws_FnBlocks.j0 k t102 t105 bt119.1 ((bt123.1.length : Int) != 1)) else (laws_FnBlocks.j0 k t102 t105 bt119.1 true)) else (laws_FnBlocks.j0 k t102 t105 bt119.1 true))) else (laws_FnBlocks.j0 k t102 t105 bt119.1 true)) else (laws_FnBlocks.j0 k t102 t105 bt119.1 true))) else (laws_FnBlocks.j0 k t102 t105 bt119.1 true)) else (laws_FnBlocks.j0 k t102 t105 bt119.1 true)) else (laws_FnBlocks.j0 k t102 t105 bt119.1 true)) else (laws_FnBlocks.j0 k t102 t105 bt119.1 true))))))) = some r := H
    have A6 := Aside0.mk A60
    clear A60
    replace H := Option.bind_eq_some_iff.mp H
    obtain ⟨⟨t109, t112⟩, A70, H⟩ := H
    replace H : ((impl_BlockNamed.f k t109 (⟨#[110, 101, 119]⟩ : ByteArray) (⟨#[120]⟩ : ByteArray)).bind fun bt113 => ((impl_DropBlock.f k t109 (⟨#[110, 101, 119]⟩ : ByteArray) (⟨#[120]⟩ : ByteArray)).bind fun bt115 => ((impl_MergeBlocks.f k t102 t105).bind fun bt119 => ((impl_BlocksOfKind.f k t109 (⟨#[110, 101, 119]⟩ : ByteArray)).bind fun bt123 => (if t112 = 0 then (if bt113.2 = 0 then (if bt113.1.toList = ([116] : List UInt8) then (if bt115.2 = 0 then ((spec_SameBlocks.f k bt115.1 t102).bind fun t127 => (if t127 = true then (if bt119.2 = 0 then ((spec_ValidBlocks.f k bt119.1).bind fun t128 => (if t128 = true then (if bt123.2 = 0 then (laws_FnBlocks.j0 k t102 t105 bt119.1 ((bt123.1.length : Int) != 1)) else (laws_FnBlocks.j0 k t102 t105 bt119.1 true)) else (laws_FnBlocks.j0 k t102 t105 bt119.1 true))) else (laws_FnBlocks.j0 k t102 t105 bt119.1 true)) else (laws_FnBlocks.j0 k t102 t105 bt119.1 true))) else (laws_FnBlocks.j0 k t102 t105 bt119.1 true)) else (laws_FnBlocks.j0 k t102 t105 bt119.1 true)) else (laws_FnBlocks.j0 k t102 t105 bt119.1 true)) else (laws_FnBlocks.j0 k t102 t105 bt119.1 true)))))) = some r := H
    have A7 := Aside0.mk A70
    clear A70
    replace H := Option.bind_eq_some_iff.mp H
    obtain ⟨⟨t113, t114⟩, A80, H⟩ := H
    replace H : ((impl_DropBlock.f k t109 (⟨#[110, 101, 119]⟩ : ByteArray) (⟨#[120]⟩ : ByteArray)).bind fun bt115 => ((impl_MergeBlocks.f k t102 t105).bind fun bt119 => ((impl_BlocksOfKind.f k t109 (⟨#[110, 101, 119]⟩ : ByteArray)).bind fun bt123 => (if t112 = 0 then (if t114 = 0 then (if t113.toList = ([116] : List UInt8) then (if bt115.2 = 0 then ((spec_SameBlocks.f k bt115.1 t102).bind fun t127 => (if t127 = true then (if bt119.2 = 0 then ((spec_ValidBlocks.f k bt119.1).bind fun t128 => (if t128 = true then (if bt123.2 = 0 then (laws_FnBlocks.j0 k t102 t105 bt119.1 ((bt123.1.length : Int) != 1)) else (laws_FnBlocks.j0 k t102 t105 bt119.1 true)) else (laws_FnBlocks.j0 k t102 t105 bt119.1 true))) else (laws_FnBlocks.j0 k t102 t105 bt119.1 true)) else (laws_FnBlocks.j0 k t102 t105 bt119.1 true))) else (laws_FnBlocks.j0 k t102 t105 bt119.1 true)) else (laws_FnBlocks.j0 k t102 t105 bt119.1 true)) else (laws_FnBlocks.j0 k t102 t105 bt119.1 true)) else (laws_FnBlocks.j0 k t102 t105 bt119.1 true))))) = some r := H
    have A8 := Aside0.mk A80
    clear A80
    replace H := Option.bind_eq_some_iff.mp H
    obtain ⟨⟨t115, t116⟩, A90, H⟩ := H
    replace H : ((impl_MergeBlocks.f k t102 t105).bind fun bt119 => ((impl_BlocksOfKind.f k t109 (⟨#[110, 101, 119]⟩ : ByteArray)).bind fun bt123 => (if t112 = 0 then (if t114 = 0 then (if t113.toList = ([116] : List UInt8) then (if t116 = 0 then ((spec_SameBlocks.f k t115 t102).bind fun t127 => (if t127 = true then (if bt119.2 = 0 then ((spec_ValidBlocks.f k bt119.1).bind fun t128 => (if t128 = true then (if bt123.2 = 0 then (laws_FnBlocks.j0 k t102 t105 bt119.1 ((bt123.1.length : Int) != 1)) else (laws_FnBlocks.j0 k t102 t105 bt119.1 true)) else (laws_FnBlocks.j0 k t102 t105 bt119.1 true))) else (laws_FnBlocks.j0 k t102 t105 bt119.1 true)) else (laws_FnBlocks.j0 k t102 t105 bt119.1 true))) else (laws_FnBlocks.j0 k t102 t105 bt119.1 true)) else (laws_FnBlocks.j0 k t102 t105 bt119.1 true)) else (laws_FnBlocks.j0 k t102 t105 bt119.1 true)) else (laws_FnBlocks.j0 k t102 t105 bt119.1 true)))) = some r := H
    have A9 := Aside0.mk A90
    clear A90
    replace H := Option.bind_eq_some_iff.mp H
    obtain ⟨⟨t119, t120⟩, A100, H⟩ := H
    replace H : ((impl_BlocksOfKind.f k t109 (⟨#[110, 101, 119]⟩ : ByteArray)).bind fun bt123 => (if t112 = 0 then (if t114 = 0 then (if t113.toList = ([116] : List UInt8) then (if t116 = 0 then ((spec_SameBlocks.f k t115 t102).bind fun t127 => (if t127 = true then (if t120 = 0 then ((spec_ValidBlocks.f k t119).bind fun t128 => (if t128 = true then (if bt123.2 = 0 then (laws_FnBlocks.j0 k t102 t105 t119 ((bt123.1.length : Int) != 1)) else (laws_FnBlocks.j0 k t102 t105 t119 true)) else (laws_FnBlocks.j0 k t102 t105 t119 true))) else (laws_FnBlocks.j0 k t102 t105 t119 true)) else (laws_FnBlocks.j0 k t102 t105 t119 true))) else (laws_FnBlocks.j0 k t102 t105 t119 true)) else (laws_FnBlocks.j0 k t102 t105 t119 true)) else (laws_FnBlocks.j0 k t102 t105 t119 true)) else (laws_FnBlocks.j0 k t102 t105 t119 true))) = some r := H
    have A10 := Aside0.mk A100
    clear A100
    replace H := Option.bind_eq_some_iff.mp H
    obtain ⟨⟨t123, t124⟩, A110, H⟩ := H
    replace H : (if t112 = 0 then (if t114 = 0 then (if t113.toList = ([116] : List UInt8) then (if t116 = 0 then ((spec_SameBlocks.f k t115 t102).bind fun t127 => (if t127 = true then (if t120 = 0 then ((spec_ValidBlocks.f k t119).bind fun t128 => (if t128 = true then (if t124 = 0 then (laws_FnBlocks.j0 k t102 t105 t119 ((t123.length : Int) != 1)) else (laws_FnBlocks.j0 k t102 t105 t119 true)) else (laws_FnBlocks.j0 k t102 t105 t119 true))) else (laws_FnBlocks.j0 k t102 t105 t119 true)) else (laws_FnBlocks.j0 k t102 t105 t119 true))) else (laws_FnBlocks.j0 k t102 t105 t119 true)) else (laws_FnBlocks.j0 k t102 t105 t119 true)) else (laws_FnBlocks.j0 k t102 t105 t119 true)) else (laws_FnBlocks.j0 k t102 t105 t119 true)) = some r := H
    have A11 := Aside0.mk A110
    clear A110
    have HC12 := Aside0.mk H
    clear H
    go_enter Try.func3, Try.ntmps3
    go_upto_region 11 with (first | ((with_reducible refine gate_callee (f := 6) rfl ?_); refine goesL_ (some 23) rfl rfl Try.func6 (by kernel_rfl) rfl #[.slice A0 l0.length c0, .slice A1 l1.length c1] rfl (by (try simp only [List.map_toArray, List.map_cons, List.map_nil]); first | done | rfl | (simp only [List.length_drop, List.length_take]; rfl)) ?_; (with_reducible refine (laws_r8Long.calls _ _ l0 _ _ l1 false _ ?side1 ?side2 ?side3 ?side4 A3.out).mono ?_); (case side1 => repeat (first | exact HR0.out | (with_reducible refine Kd.C_alloc ?_ _) | (with_reducible refine Kd.C_drewN ?_ _) | (with_reducible refine Kd.C_drew ?_))); (case side2 => exact HC0.out); (case side3 => repeat (first | exact HR1.out | (with_reducible refine Kd.C_alloc ?_ _) | (with_reducible refine Kd.C_drewN ?_ _) | (with_reducible refine Kd.C_drew ?_))); (case side4 => exact HC1.out); rintro e w' ⟨rfl, ⟨nd, rfl⟩⟩; refine ⟨_, rfl, ?_⟩) | ((with_reducible refine gate_callee (f := 7) rfl ?_); refine goesL_ (some 25) rfl rfl Try.func7 (by kernel_rfl) rfl #[.slice A0 l0.length c0] rfl (by (try simp only [List.map_toArray, List.map_cons, List.map_nil]); first | done | rfl | (simp only [List.length_drop, List.length_take]; rfl)) ?_; (with_reducible refine (spec_R8Blocks.calls k _ _ l0 t102 _ ?side1 ?side2 A5.out).mono ?_); (case side1 => repeat (first | exact HR0.out | (with_reducible refine Kd.C_alloc ?_ _) | (with_reducible refine Kd.C_drewN ?_ _) | (with_reducible refine Kd.C_drew ?_))); (case side2 => exact HC0.out); rintro e w13 ⟨v103, rfl, ho0, hb⟩; refine ⟨_, rfl, ?_⟩; have n0_ := Aside0.mk (Kd.R_lower ho0 (below_size (by repeat (first | (with_reducible first | exact HB.out | apply below_alloc | apply pw_below_drewN | apply below_drew1) | exact HB.out)))); have n1_ := Aside0.mk (below_step (by repeat (first | (with_reducible first | exact HB.out | apply below_alloc | apply pw_below_drewN | apply below_drew1) | exact HB.out)) hb); clear HB; have HO104 := n0_; have HB := n1_; clear n0_ n1_; (try clear hb); (try clear hb2); (try clear hk); (try clear hi); (try clear ho0)) | ((with_reducible refine gate_callee (f := 7) rfl ?_); refine goesL_ (some 27) rfl rfl Try.func7 (by kernel_rfl) rfl #[.slice A1 l1.length c1] rfl (by (try simp only [List.map_toArray, List.map_cons, List.map_nil]); first | done | rfl | (simp only [List.length_drop, List.length_take]; rfl)) ?_; (with_reducible refine (spec_R8Blocks.calls k _ _ l1 t105 _ ?side1 ?side2 A6.out).mono ?_); (case side1 => repeat (first | exact (Kd.C_below HR1.out HB.out) | (with_reducible refine Kd.C_alloc ?_ _) | (with_reducible refine Kd.C_drewN ?_ _) | (with_reducible refine Kd.C_drew ?_))); (case side2 => exact HC1.out); rintro e w14 ⟨v106, rfl, ho0, hb⟩; refine ⟨_, rfl, ?_⟩; have n0_ := Aside0.mk (Kd.R_elder' (by (with_reducible repeat (first | apply Kd.R_alloc | apply Kd.R_drewN | apply Kd.R_drew)); exact HO104.out) (Kd.R_base ho0) hb); have n1_ := Aside0.mk (Kd.R_lower (Kd.R_new' ho0 (Kd.R_lt (by (with_reducible repeat (first | apply Kd.R_alloc | apply Kd.R_drewN | apply Kd.R_drew)); exact HO104.out))) (below_size (by repeat (first | (with_reducible first | exact HB.out | apply below_alloc | apply pw_below_drewN | apply below_drew1) | exact HB.out)))); have n2_ := Aside0.mk (below_step (by repeat (first | (with_reducible first | exact HB.out | apply below_alloc | apply pw_below_drewN | apply below_drew1) | exact HB.out)) hb); clear HO104; clear HB; have HO104 := n0_; have HO107 := n1_; have HB := n2_; clear n0_ n1_ n2_; (try clear hb); (try clear hb2); (try clear hk); (try clear hi); (try clear ho0)) | ((with_reducible refine gate_dst (N := 7) rfl ?_); (try (refine gate_guard (by rfl) ?_; dsimp only)); refine box_event ?hg (N := 7) ?hd (cs := #[.string (⟨#[]⟩ : ByteArray), .string (⟨#[]⟩ : ByteArray), .string (⟨#[]⟩ : ByteArray)]) (t := 27) ?hr ?_; (case hd => rfl); (case hg => rfl); (case hr => first | (go_simp; done) | (go_simp; rfl)); intro gb108 hg w15 hbox hb; have n0_ := Aside0.mk (Kd.R_below (Kd.R_elderB (by (with_reducible repeat (first | apply Kd.R_alloc | apply Kd.R_drewN | apply Kd.R_drew)); exact HO104.out) gb108 (Nat.le_of_eq hg.symm)) hb); have n1_ := Aside0.mk (Kd.R_below (Kd.R_elderB (by (with_reducible repeat (first | apply Kd.R_alloc | apply Kd.R_drewN | apply Kd.R_drew)); exact HO107.out) gb108 (Nat.le_of_eq hg.symm)) hb); have n2_ := Aside0.mk (below_step (by repeat (first | (with_reducible first | exact HB.out | apply below_alloc | apply pw_below_drewN | apply below_drew1) | exact HB.out)) hb); have n3_ := Aside0.mk (hbox); have n4_ := Aside0.mk ((by rw [hg]; exact (below_size (by repeat (first | (with_reducible first | exact HB.out | apply below_alloc | apply pw_below_drewN | apply below_drew1) | exact HB.out))) : w.heap.size ≤ gb108)); have n5_ := Aside0.mk ((by rw [hg]; exact (below_size (by repeat (first | (with_reducible first | exact HB.out | apply below_alloc | apply pw_below_drewN | apply below_drew1) | exact HB.out))) : w.heap.size ≤ gb108)); clear HO104; clear HO107; clear HB; have HO104 := n0_; have HO107 := n1_; have HB := n2_; have BK108 := n3_; have GW108 := n4_; have GE108 := n5_; clear n0_ n1_ n2_ n3_ n4_ n5_; clear hb hbox hg; have hcz16_0 : w15.cell? ⟨gb108, 0, none⟩ = some (.string (⟨#[]⟩ : ByteArray)) := (blk_cell BK108.out 0).trans rfl; have hcz16_1 : w15.cell? ⟨gb108, 1, none⟩ = some (.string (⟨#[]⟩ : ByteArray)) := (blk_cell BK108.out 1).trans rfl; have hcz16_2 : w15.cell? ⟨gb108, 2, none⟩ = some (.string (⟨#[]⟩ : ByteArray)) := (blk_cell BK108.out 2).trans rfl; have hfz16_0 := blk_frozen BK108.out 0; have hfz16_1 := blk_frozen BK108.out 1; have hfz16_2 := blk_frozen BK108.out 2; obtain ⟨Ao17, co17, eo17⟩ := Kd.R_slice HO104.out; subst eo17) | ((with_reducible refine gate_callee (f := 8) rfl ?_); refine goesL_ (some 32) rfl rfl Try.func8 (by kernel_rfl) rfl #[.slice Ao17 t102.length co17, .agg #[.string (⟨#[110, 101, 119]⟩ : ByteArray), .string (⟨#[120]⟩ : ByteArray), .string (⟨#[116]⟩ : ByteArray)]] rfl (by (try simp only [List.map_toArray, List.map_cons, List.map_nil]); first | done | rfl | (simp only [List.length_drop, List.length_take]; rfl)) ?_; (with_reducible refine (impl_PutBlock.calls k _ _ t102 (⟨#[110, 101, 119]⟩ : ByteArray) (⟨#[120]⟩ : ByteArray) (⟨#[116]⟩ : ByteArray) t109 t112 _ ?side1 ?side2 A7.out ?side3).mono ?_); (case side1 => refine (Kd.R_reads' (e := 27) (base := w.heap.size) (ok := fun k_ => ((True ∧ some k_ ≠ (v106 : Value).ownBlock) ∧ k_ ≠ gb108)) (n := t102.length) (c := co17) ?_).2.2; exact (by (with_reducible repeat (first | apply Kd.R_alloc | apply Kd.R_drewN | apply Kd.R_drew)); exact (Kd.R_mono (Kd.R_far (p := ⟨gb108, 2, none⟩) (Kd.R_far (p := ⟨gb108, 1, none⟩) (Kd.R_far (p := ⟨gb108, 0, none⟩) (Kd.R_mono HO104.out (fun k_ hk => (⟨hk, hk.2⟩ : _ ∧ k_ ≠ gb108))) (fun _ hk => hk.2) (.string (⟨#[110, 101, 119]⟩ : ByteArray))) (fun _ hk => hk.2) (.string (⟨#[120]⟩ : ByteArray))) (fun _ hk => hk.2) (.string (⟨#[116]⟩ : ByteArray))) (fun _ h_ => h_.1)))); (case side2 => exact (Kd.R_reads' HO104.out).2.1); (case side3 => exact HasV.below HV.out (by repeat (first | (with_reducible first | exact HB.out | apply below_alloc | apply pw_below_drewN | apply below_drew1 | refine below_set ?_ GE108.out) | exact HB.out))); rintro e w18 ⟨v110, rfl, ho0, hb⟩; refine ⟨_, rfl, ?_⟩; have n0_ := Aside0.mk (Kd.R_elder' (by (with_reducible repeat (first | apply Kd.R_alloc | apply Kd.R_drewN | apply Kd.R_drew)); exact (Kd.R_mono (Kd.R_far (p := ⟨gb108, 2, none⟩) (Kd.R_far (p := ⟨gb108, 1, none⟩) (Kd.R_far (p := ⟨gb108, 0, none⟩) (Kd.R_mono HO104.out (fun k_ hk => (⟨hk, hk.2⟩ : _ ∧ k_ ≠ gb108))) (fun _ hk => hk.2) (.string (⟨#[110, 101, 119]⟩ : ByteArray))) (fun _ hk => hk.2) (.string (⟨#[120]⟩ : ByteArray))) (fun _ hk => hk.2) (.string (⟨#[116]⟩ : ByteArray))) (fun _ h_ => h_.1))) (Kd.R_base ho0) hb); have n1_ := Aside0.mk (Kd.R_elder' (by (with_reducible repeat (first | apply Kd.R_alloc | apply Kd.R_drewN | apply Kd.R_drew)); exact (Kd.R_mono (Kd.R_far (p := ⟨gb108, 2, none⟩) (Kd.R_far (p := ⟨gb108, 1, none⟩) (Kd.R_far (p := ⟨gb108, 0, none⟩) (Kd.R_mono HO107.out (fun k_ hk => (⟨hk, hk.2⟩ : _ ∧ k_ ≠ gb108))) (fun _ hk => hk.2) (.string (⟨#[110, 101, 119]⟩ : ByteArray))) (fun _ hk => hk.2) (.string (⟨#[120]⟩ : ByteArray))) (fun _ hk => hk.2) (.string (⟨#[116]⟩ : ByteArray))) (fun _ h_ => h_.1))) (Kd.R_base ho0) hb); have n2_ := Aside0.mk (Kd.R_lower (Kd.R_newB (Kd.R_new' (Kd.R_new' ho0 (Kd.R_lt (by (with_reducible repeat (first | apply Kd.R_alloc | apply Kd.R_drewN | apply Kd.R_drew)); exact (Kd.R_mono (Kd.R_far (p := ⟨gb108, 2, none⟩) (Kd.R_far (p := ⟨gb108, 1, none⟩) (Kd.R_far (p := ⟨gb108, 0, none⟩) (Kd.R_mono HO104.out (fun k_ hk => (⟨hk, hk.2⟩ : _ ∧ k_ ≠ gb108))) (fun _ hk => hk.2) (.string (⟨#[110, 101, 119]⟩ : ByteArray))) (fun _ hk => hk.2) (.string (⟨#[120]⟩ : ByteArray))) (fun _ hk => hk.2) (.string (⟨#[116]⟩ : ByteArray))) (fun _ h_ => h_.1))))) (Kd.R_lt (by (with_reducible repeat (first | apply Kd.R_alloc | apply Kd.R_drewN | apply Kd.R_drew)); exact (Kd.R_mono (Kd.R_far (p := ⟨gb108, 2, none⟩) (Kd.R_far (p := ⟨gb108, 1, none⟩) (Kd.R_far (p := ⟨gb108, 0, none⟩) (Kd.R_mono HO107.out (fun k_ hk => (⟨hk, hk.2⟩ : _ ∧ k_ ≠ gb108))) (fun _ hk => hk.2) (.string (⟨#[110, 101, 119]⟩ : ByteArray))) (fun _ hk => hk.2) (.string (⟨#[120]⟩ : ByteArray))) (fun _ hk => hk.2) (.string (⟨#[116]⟩ : ByteArray))) (fun _ h_ => h_.1))))) (g := gb108) (o := .cells #[.string (⟨#[110, 101, 119]⟩ : ByteArray), .string (⟨#[120]⟩ : ByteArray), .string (⟨#[116]⟩ : ByteArray)] 27 (0, 0)) (by (with_reducible repeat (first | refine blk_drewN ?_ _ | refine blk_drew ?_ | refine blk_alloc ?_ _)); refine blk_put (cs := #[.string (⟨#[110, 101, 119]⟩ : ByteArray), .string (⟨#[120]⟩ : ByteArray), .string (⟨#[]⟩ : ByteArray)]) ?_ 2 _ rfl; (with_reducible repeat (first | refine blk_drewN ?_ _ | refine blk_drew ?_ | refine blk_alloc ?_ _)); refine blk_put (cs := #[.string (⟨#[110, 101, 119]⟩ : ByteArray), .string (⟨#[]⟩ : ByteArray), .string (⟨#[]⟩ : ByteArray)]) ?_ 1 _ rfl; (with_reducible repeat (first | refine blk_drewN ?_ _ | refine blk_drew ?_ | refine blk_alloc ?_ _)); refine blk_put (cs := #[.string (⟨#[]⟩ : ByteArray), .string (⟨#[]⟩ : ByteArray), .string (⟨#[]⟩ : ByteArray)]) ?_ 0 _ rfl; (with_reducible repeat (first | refine blk_drewN ?_ _ | refine blk_drew ?_ | refine blk_alloc ?_ _)); exact BK108.out)) (below_size (by repeat (first | (with_reducible first | exact HB.out | apply below_alloc | apply pw_below_drewN | apply below_drew1 | refine below_set ?_ GE108.out) | exact HB.out)))); have n3_ := Aside0.mk (blk_below (g := gb108) (o := .cells #[.string (⟨#[110, 101, 119]⟩ : ByteArray), .string (⟨#[120]⟩ : ByteArray), .string (⟨#[116]⟩ : ByteArray)] 27 (0, 0)) (by (with_reducible repeat (first | refine blk_drewN ?_ _ | refine blk_drew ?_ | refine blk_alloc ?_ _)); refine blk_put (cs := #[.string (⟨#[110, 101, 119]⟩ : ByteArray), .string (⟨#[120]⟩ : ByteArray), .string (⟨#[]⟩ : ByteArray)]) ?_ 2 _ rfl; (with_reducible repeat (first | refine blk_drewN ?_ _ | refine blk_drew ?_ | refine blk_alloc ?_ _)); refine blk_put (cs := #[.string (⟨#[110, 101, 119]⟩ : ByteArray), .string (⟨#[]⟩ : ByteArray), .string (⟨#[]⟩ : ByteArray)]) ?_ 1 _ rfl; (with_reducible repeat (first | refine blk_drewN ?_ _ | refine blk_drew ?_ | refine blk_alloc ?_ _)); refine blk_put (cs := #[.string (⟨#[]⟩ : ByteArray), .string (⟨#[]⟩ : ByteArray), .string (⟨#[]⟩ : ByteArray)]) ?_ 0 _ rfl; (with_reducible repeat (first | refine blk_drewN ?_ _ | refine blk_drew ?_ | refine blk_alloc ?_ _)); exact BK108.out) hb); have n4_ := Aside0.mk (below_step (by repeat (first | (with_reducible first | exact HB.out | apply below_alloc | apply pw_below_drewN | apply below_drew1 | refine below_set ?_ GE108.out) | exact HB.out)) hb); clear HO104; clear HO107; clear BK108; clear HB; have HO104 := n0_; have HO107 := n1_; have HO111 := n2_; have BK108 := n3_; have HB := n4_; clear n0_ n1_ n2_ n3_ n4_; (try clear hb); (try clear hb2); (try clear hk); (try clear hi); (try clear ho0); obtain ⟨Ao19, co19, eo19⟩ := Kd.R_slice HO111.out; subst eo19) | ((with_reducible refine gate_callee (f := 9) rfl ?_); refine goesL_ (some 37) rfl rfl Try.func9 (by kernel_rfl) rfl #[.slice Ao19 t109.length co19, .string (⟨#[110, 101, 119]⟩ : ByteArray), .string (⟨#[120]⟩ : ByteArray)] rfl (by (try simp only [List.map_toArray, List.map_cons, List.map_nil]); first | done | rfl | (simp only [List.length_drop, List.length_take]; rfl)) ?_; (with_reducible refine (impl_BlockNamed.calls k _ _ t109 (⟨#[110, 101, 119]⟩ : ByteArray) (⟨#[120]⟩ : ByteArray) t113 t114 _ ?side1 ?side2 A8.out ?side3).mono ?_); (case side1 => repeat (first | exact (Kd.R_reads' HO111.out).2.2 | (with_reducible refine Kd.C_alloc ?_ _) | (with_reducible refine Kd.C_drewN ?_ _) | (with_reducible refine Kd.C_drew ?_))); (case side2 => exact (Kd.R_reads' HO111.out).2.1); (case side3 => exact HasV.below HV.out (by repeat (first | (with_reducible first | exact HB.out | apply below_alloc | apply pw_below_drewN | apply below_drew1 | refine below_set ?_ GE108.out) | exact HB.out))); rintro e w20 ⟨rfl, hb⟩; refine ⟨_, rfl, ?_⟩; have n0_ := Aside0.mk (Kd.R_below (by (with_reducible repeat (first | apply Kd.R_alloc | apply Kd.R_drewN | apply Kd.R_drew)); exact HO104.out) hb); have n1_ := Aside0.mk (Kd.R_below (by (with_reducible repeat (first | apply Kd.R_alloc | apply Kd.R_drewN | apply Kd.R_drew)); exact HO107.out) hb); have n2_ := Aside0.mk (Kd.R_below (by (with_reducible repeat (first | apply Kd.R_alloc | apply Kd.R_drewN | apply Kd.R_drew)); exact HO111.out) hb); have n3_ := Aside0.mk (blk_below (g := gb108) (o := .cells #[.string (⟨#[110, 101, 119]⟩ : ByteArray), .string (⟨#[120]⟩ : ByteArray), .string (⟨#[116]⟩ : ByteArray)] 27 (0, 0)) (by (with_reducible repeat (first | refine blk_drewN ?_ _ | refine blk_drew ?_ | refine blk_alloc ?_ _)); exact BK108.out) hb); have n4_ := Aside0.mk (below_step (by repeat (first | (with_reducible first | exact HB.out | apply below_alloc | apply pw_below_drewN | apply below_drew1 | refine below_set ?_ GE108.out) | exact HB.out)) hb); clear HO104; clear HO107; clear HO111; clear BK108; clear HB; have HO104 := n0_; have HO107 := n1_; have HO111 := n2_; have BK108 := n3_; have HB := n4_; clear n0_ n1_ n2_ n3_ n4_; (try clear hb); (try clear hb2); (try clear hk); (try clear hi)) | ((with_reducible refine gate_callee (f := 10) rfl ?_); refine goesL_ (some 42) rfl rfl Try.func10 (by kernel_rfl) rfl #[.slice Ao19 t109.length co19, .string (⟨#[110, 101, 119]⟩ : ByteArray), .string (⟨#[120]⟩ : ByteArray)] rfl (by (try simp only [List.map_toArray, List.map_cons, List.map_nil]); first | done | rfl | (simp only [List.length_drop, List.length_take]; rfl)) ?_; (with_reducible refine (impl_DropBlock.calls k _ _ t109 (⟨#[110, 101, 119]⟩ : ByteArray) (⟨#[120]⟩ : ByteArray) t115 t116 _ ?side1 ?side2 A9.out ?side3).mono ?_); (case side1 => repeat (first | exact (Kd.R_reads' HO111.out).2.2 | (with_reducible refine Kd.C_alloc ?_ _) | (with_reducible refine Kd.C_drewN ?_ _) | (with_reducible refine Kd.C_drew ?_))); (case side2 => exact (Kd.R_reads' HO111.out).2.1); (case side3 => exact HasV.below HV.out (by repeat (first | (with_reducible first | exact HB.out | apply below_alloc | apply pw_below_drewN | apply below_drew1 | refine below_set ?_ GE108.out) | exact HB.out))); rintro e w21 ⟨v117, rfl, ho0, hb⟩; refine ⟨_, rfl, ?_⟩; have n0_ := Aside0.mk (Kd.R_elder' (by (with_reducible repeat (first | apply Kd.R_alloc | apply Kd.R_drewN | apply Kd.R_drew)); exact HO104.out) (Kd.R_base ho0) hb); have n1_ := Aside0.mk (Kd.R_elder' (by (with_reducible repeat (first | apply Kd.R_alloc | apply Kd.R_drewN | apply Kd.R_drew)); exact HO107.out) (Kd.R_base ho0) hb); have n2_ := Aside0.mk (Kd.R_elder' (by (with_reducible repeat (first | apply Kd.R_alloc | apply Kd.R_drewN | apply Kd.R_drew)); exact HO111.out) (Kd.R_base ho0) hb); have n3_ := Aside0.mk (Kd.R_lower (Kd.R_newB (Kd.R_new' (Kd.R_new' (Kd.R_new' ho0 (Kd.R_lt (by (with_reducible repeat (first | apply Kd.R_alloc | apply Kd.R_drewN | apply Kd.R_drew)); exact HO104.out))) (Kd.R_lt (by (with_reducible repeat (first | apply Kd.R_alloc | apply Kd.R_drewN | apply Kd.R_drew)); exact HO107.out))) (Kd.R_lt (by (with_reducible repeat (first | apply Kd.R_alloc | apply Kd.R_drewN | apply Kd.R_drew)); exact HO111.out))) (g := gb108) (o := .cells #[.string (⟨#[110, 101, 119]⟩ : ByteArray), .string (⟨#[120]⟩ : ByteArray), .string (⟨#[116]⟩ : ByteArray)] 27 (0, 0)) (by (with_reducible repeat (first | refine blk_drewN ?_ _ | refine blk_drew ?_ | refine blk_alloc ?_ _)); exact BK108.out)) (below_size (by repeat (first | (with_reducible first | exact HB.out | apply below_alloc | apply pw_below_drewN | apply below_drew1 | refine below_set ?_ GE108.out) | exact HB.out)))); have n4_ := Aside0.mk (blk_below (g := gb108) (o := .cells #[.string (⟨#[110, 101, 119]⟩ : ByteArray), .string (⟨#[120]⟩ : ByteArray), .string (⟨#[116]⟩ : ByteArray)] 27 (0, 0)) (by (with_reducible repeat (first | refine blk_drewN ?_ _ | refine blk_drew ?_ | refine blk_alloc ?_ _)); exact BK108.out) hb); have n5_ := Aside0.mk (below_step (by repeat (first | (with_reducible first | exact HB.out | apply below_alloc | apply pw_below_drewN | apply below_drew1 | refine below_set ?_ GE108.out) | exact HB.out)) hb); clear HO104; clear HO107; clear HO111; clear BK108; clear HB; have HO104 := n0_; have HO107 := n1_; have HO111 := n2_; have HO118 := n3_; have BK108 := n4_; have HB := n5_; clear n0_ n1_ n2_ n3_ n4_ n5_; (try clear hb); (try clear hb2); (try clear hk); (try clear hi); (try clear ho0); obtain ⟨Ao22, co22, eo22⟩ := Kd.R_slice HO107.out; subst eo22) | ((with_reducible refine gate_callee (f := 11) rfl ?_); refine goesL_ (some 48) rfl rfl Try.func11 (by kernel_rfl) rfl #[.slice Ao17 t102.length co17, .slice Ao22 t105.length co22] rfl (by (try simp only [List.map_toArray, List.map_cons, List.map_nil]); first | done | rfl | (simp only [List.length_drop, List.length_take]; rfl)) ?_; (with_reducible refine (impl_MergeBlocks.calls k _ _ t102 _ _ t105 t119 t120 _ ?side1 ?side2 ?side3 ?side4 A10.out ?side5).mono ?_); (case side1 => repeat (first | exact (Kd.R_reads' HO104.out).2.2 | (with_reducible refine Kd.C_alloc ?_ _) | (with_reducible refine Kd.C_drewN ?_ _) | (with_reducible refine Kd.C_drew ?_))); (case side2 => exact (Kd.R_reads' HO104.out).2.1); (case side3 => repeat (first | exact (Kd.R_reads' HO107.out).2.2 | (with_reducible refine Kd.C_alloc ?_ _) | (with_reducible refine Kd.C_drewN ?_ _) | (with_reducible refine Kd.C_drew ?_))); (case side4 => exact (Kd.R_reads' HO107.out).2.1); (case side5 => exact HasV.below HV.out (by repeat (first | (with_reducible first | exact HB.out | apply below_alloc | apply pw_below_drewN | apply below_drew1 | refine below_set ?_ GE108.out) | exact HB.out))); rintro e w23 ⟨v121, rfl, ho0, hb⟩; refine ⟨_, rfl, ?_⟩; have n0_ := Aside0.mk (Kd.R_elder' (by (with_reducible repeat (first | apply Kd.R_alloc | apply Kd.R_drewN | apply Kd.R_drew)); exact HO104.out) (Kd.R_base ho0) hb); have n1_ := Aside0.mk (Kd.R_elder' (by (with_reducible repeat (first | apply Kd.R_alloc | apply Kd.R_drewN | apply Kd.R_drew)); exact HO107.out) (Kd.R_base ho0) hb); have n2_ := Aside0.mk (Kd.R_elder' (by (with_reducible repeat (first | apply Kd.R_alloc | apply Kd.R_drewN | apply Kd.R_drew)); exact HO111.out) (Kd.R_base ho0) hb); have n3_ := Aside0.mk (Kd.R_elder' (by (with_reducible repeat (first | apply Kd.R_alloc | apply Kd.R_drewN | apply Kd.R_drew)); exact HO118.out) (Kd.R_base ho0) hb); have n4_ := Aside0.mk (Kd.R_lower (Kd.R_newB (Kd.R_new' (Kd.R_new' (Kd.R_new' (Kd.R_new' ho0 (Kd.R_lt (by (with_reducible repeat (first | apply Kd.R_alloc | apply Kd.R_drewN | apply Kd.R_drew)); exact HO104.out))) (Kd.R_lt (by (with_reducible repeat (first | apply Kd.R_alloc | apply Kd.R_drewN | apply Kd.R_drew)); exact HO107.out))) (Kd.R_lt (by (with_reducible repeat (first | apply Kd.R_alloc | apply Kd.R_drewN | apply Kd.R_drew)); exact HO111.out))) (Kd.R_lt (by (with_reducible repeat (first | apply Kd.R_alloc | apply Kd.R_drewN | apply Kd.R_drew)); exact HO118.out))) (g := gb108) (o := .cells #[.string (⟨#[110, 101, 119]⟩ : ByteArray), .string (⟨#[120]⟩ : ByteArray), .string (⟨#[116]⟩ : ByteArray)] 27 (0, 0)) (by (with_reducible repeat (first | refine blk_drewN ?_ _ | refine blk_drew ?_ | refine blk_alloc ?_ _)); exact BK108.out)) (below_size (by repeat (first | (with_reducible first | exact HB.out | apply below_alloc | apply pw_below_drewN | apply below_drew1 | refine below_set ?_ GE108.out) | exact HB.out)))); have n5_ := Aside0.mk (blk_below (g := gb108) (o := .cells #[.string (⟨#[110, 101, 119]⟩ : ByteArray), .string (⟨#[120]⟩ : ByteArray), .string (⟨#[116]⟩ : ByteArray)] 27 (0, 0)) (by (with_reducible repeat (first | refine blk_drewN ?_ _ | refine blk_drew ?_ | refine blk_alloc ?_ _)); exact BK108.out) hb); have n6_ := Aside0.mk (below_step (by repeat (first | (with_reducible first | exact HB.out | apply below_alloc | apply pw_below_drewN | apply below_drew1 | refine below_set ?_ GE108.out) | exact HB.out)) hb); clear HO104; clear HO107; clear HO111; clear HO118; clear BK108; clear HB; have HO104 := n0_; have HO107 := n1_; have HO111 := n2_; have HO118 := n3_; have HO122 := n4_; have BK108 := n5_; have HB := n6_; clear n0_ n1_ n2_ n3_ n4_ n5_ n6_; (try clear hb); (try clear hb2); (try clear hk); (try clear hi); (try clear ho0)) | ((with_reducible refine gate_callee (f := 12) rfl ?_); refine goesL_ (some 53) rfl rfl Try.func12 (by kernel_rfl) rfl #[.slice Ao19 t109.length co19, .string (⟨#[110, 101, 119]⟩ : ByteArray)] rfl (by (try simp only [List.map_toArray, List.map_cons, List.map_nil]); first | done | rfl | (simp only [List.length_drop, List.length_take]; rfl)) ?_; (with_reducible refine (impl_BlocksOfKind.calls k _ _ t109 (⟨#[110, 101, 119]⟩ : ByteArray) t123 t124 _ ?side1 ?side2 A11.out ?side3).mono ?_); (case side1 => repeat (first | exact (Kd.R_reads' HO111.out).2.2 | (with_reducible refine Kd.C_alloc ?_ _) | (with_reducible refine Kd.C_drewN ?_ _) | (with_reducible refine Kd.C_drew ?_))); (case side2 => exact (Kd.R_reads' HO111.out).2.1); (case side3 => exact HasV.below HV.out (by repeat (first | (with_reducible first | exact HB.out | apply below_alloc | apply pw_below_drewN | apply below_drew1 | refine below_set ?_ GE108.out) | exact HB.out))); rintro e w24 ⟨v125, rfl, ho0, hb⟩; refine ⟨_, rfl, ?_⟩; have n0_ := Aside0.mk (Kd.R_below (by (with_reducible repeat (first | apply Kd.R_alloc | apply Kd.R_drewN | apply Kd.R_drew)); exact HO104.out) hb); have n1_ := Aside0.mk (Kd.R_below (by (with_reducible repeat (first | apply Kd.R_alloc | apply Kd.R_drewN | apply Kd.R_drew)); exact HO107.out) hb); have n2_ := Aside0.mk (Kd.R_below (by (with_reducible repeat (first | apply Kd.R_alloc | apply Kd.R_drewN | apply Kd.R_drew)); exact HO111.out) hb); have n3_ := Aside0.mk (Kd.R_below (by (with_reducible repeat (first | apply Kd.R_alloc | apply Kd.R_drewN | apply Kd.R_drew)); exact HO118.out) hb); have n4_ := Aside0.mk (Kd.R_below (by (with_reducible repeat (first | apply Kd.R_alloc | apply Kd.R_drewN | apply Kd.R_drew)); exact HO122.out) hb); have n5_ := Aside0.mk (Kd.R_lower ho0 (below_size (by repeat (first | (with_reducible first | exact HB.out | apply below_alloc | apply pw_below_drewN | apply below_drew1 | refine below_set ?_ GE108.out) | exact HB.out)))); have n6_ := Aside0.mk (blk_below (g := gb108) (o := .cells #[.string (⟨#[110, 101, 119]⟩ : ByteArray), .string (⟨#[120]⟩ : ByteArray), .string (⟨#[116]⟩ : ByteArray)] 27 (0, 0)) (by (with_reducible repeat (first | refine blk_drewN ?_ _ | refine blk_drew ?_ | refine blk_alloc ?_ _)); exact BK108.out) hb); have n7_ := Aside0.mk (below_step (by repeat (first | (with_reducible first | exact HB.out | apply below_alloc | apply pw_below_drewN | apply below_drew1 | refine below_set ?_ GE108.out) | exact HB.out)) hb); clear HO104; clear HO107; clear HO111; clear HO118; clear HO122; clear BK108; clear HB; have HO104 := n0_; have HO107 := n1_; have HO111 := n2_; have HO118 := n3_; have HO122 := n4_; have HO126 := n5_; have BK108 := n6_; have HB := n7_; clear n0_ n1_ n2_ n3_ n4_ n5_ n6_ n7_; (try clear hb); (try clear hb2); (try clear hk); (try clear hi); (try clear ho0)))
    (try simp only [Act.put, List.setIfInBounds_toArray, List.set_cons_zero, List.set_cons_succ])
    go_cut [93] (fun v93 wc => ∃ (kq : Nat) (x93_11 : Bool), v93 = .bool x93_11 ∧ Aside0 (laws_FnBlocks.j0 kq t102 t105 t119 x93_11 = some r) ∧ Aside0 (kq ≤ k) ∧ Aside0 (Kd.R k27 27 wc w.heap.size (fun k_ => some k_ ≠ ((.slice Ao22 t105.length co22) : Value).ownBlock ∧ some k_ ≠ (v121 : Value).ownBlock ∧ k_ ≠ gb108) (.slice Ao17 t102.length co17) t102) ∧ Aside0 (Kd.R k27 27 wc w.heap.size (fun k_ => some k_ ≠ ((.slice Ao17 t102.length co17) : Value).ownBlock ∧ some k_ ≠ (v121 : Value).ownBlock ∧ k_ ≠ gb108) (.slice Ao22 t105.length co22) t105) ∧ Aside0 (Kd.R k27 27 wc w.heap.size (fun k_ => some k_ ≠ ((.slice Ao17 t102.length co17) : Value).ownBlock ∧ some k_ ≠ ((.slice Ao22 t105.length co22) : Value).ownBlock ∧ k_ ≠ gb108) v121 t119) ∧ Aside0 (wc.heap[gb108]? = some (.cells #[.string (⟨#[110, 101, 119]⟩ : ByteArray), .string (⟨#[120]⟩ : ByteArray), .string (⟨#[116]⟩ : ByteArray)] 27 (0, 0))) ∧ Aside0 (Below w.heap.size w wc))
    case first =>
      have H := HC12.out
      clear HC12
      by_cases c25 : t112 = 0
      · rw [if_pos c25] at H
        have c25b0 : (t112 == 0) = true := beq_iff_eq.mpr c25
        have c25b1 : (t112 != 0) = false := bne_eq_false_iff_eq.mpr c25
        clear c25
        (first | rw [c25b0] | (simp only [i64_w, i32_w]; rw [c25b0]) | skip)
        by_cases c26 : t114 = 0
        · rw [if_pos c26] at H
          have c26b0 : (t114 == 0) = true := beq_iff_eq.mpr c26
          have c26b1 : (t114 != 0) = false := bne_eq_false_iff_eq.mpr c26
          clear c26
          by_cases c27 : t113.toList = ([116] : List UInt8)
          · rw [if_pos c27] at H
            have c27b0 : (t113.toList == ([116] : List UInt8)) = true := beq_iff_eq.mpr c27
            have c27b1 : (t113.toList != ([116] : List UInt8)) = false := bne_eq_false_iff_eq.mpr c27
            clear c27
            by_cases c28 : t116 = 0
            · rw [if_pos c28] at H
              have c28b0 : (t116 == 0) = true := beq_iff_eq.mpr c28
              have c28b1 : (t116 != 0) = false := bne_eq_false_iff_eq.mpr c28
              clear c28
              replace H := Option.bind_eq_some_iff.mp H
              obtain ⟨t127, A290, H⟩ := H
              replace H : (if t127 = true then (if t120 = 0 then ((spec_ValidBlocks.f k t119).bind fun t128 => (if t128 = true then (if t124 = 0 then (laws_FnBlocks.j0 k t102 t105 t119 ((t123.length : Int) != 1)) else (laws_FnBlocks.j0 k t102 t105 t119 true)) else (laws_FnBlocks.j0 k t102 t105 t119 true))) else (laws_FnBlocks.j0 k t102 t105 t119 true)) else (laws_FnBlocks.j0 k t102 t105 t119 true)) = some r := H
              have A29 := Aside0.mk A290
              clear A290
              by_cases c30 : t127 = true
              · subst c30
                have H1 : (if t120 = 0 then ((spec_ValidBlocks.f k t119).bind fun t128 => (if t128 = true then (if t124 = 0 then (laws_FnBlocks.j0 k t102 t105 t119 ((t123.length : Int) != 1)) else (laws_FnBlocks.j0 k t102 t105 t119 true)) else (laws_FnBlocks.j0 k t102 t105 t119 true))) else (laws_FnBlocks.j0 k t102 t105 t119 true)) = some r := by rw [if_pos rfl] at H; exact H
                clear H
                have H := H1
                clear H1
                by_cases c31 : t120 = 0
                · rw [if_pos c31] at H
                  have c31b0 : (t120 == 0) = true := beq_iff_eq.mpr c31
                  have c31b1 : (t120 != 0) = false := bne_eq_false_iff_eq.mpr c31
                  clear c31
                  replace H := Option.bind_eq_some_iff.mp H
                  obtain ⟨t128, A320, H⟩ := H
                  replace H : (if t128 = true then (if t124 = 0 then (laws_FnBlocks.j0 k t102 t105 t119 ((t123.length : Int) != 1)) else (laws_FnBlocks.j0 k t102 t105 t119 true)) else (laws_FnBlocks.j0 k t102 t105 t119 true)) = some r := H
                  have A32 := Aside0.mk A320
                  clear A320
                  by_cases c33 : t128 = true
                  · subst c33
                    have H1 : (if t124 = 0 then (laws_FnBlocks.j0 k t102 t105 t119 ((t123.length : Int) != 1)) else (laws_FnBlocks.j0 k t102 t105 t119 true)) = some r := by rw [if_pos rfl] at H; exact H
                    clear H
                    have H := H1
                    clear H1
                    by_cases c34 : t124 = 0
                    · rw [if_pos c34] at H
                      have c34b0 : (t124 == 0) = true := beq_iff_eq.mpr c34
                      have c34b1 : (t124 != 0) = false := bne_eq_false_iff_eq.mpr c34
                      clear c34
                      have H' := Aside0.mk H
                      clear H
                      obtain ⟨Ao35, co35, eo35⟩ := Kd.R_slice HO118.out
                      subst eo35
                      go_wp2_with (first | (go_at_call 13; (with_reducible refine (spec_SameBlocks.calls k _ _ t115 _ _ t102 true _ ?side1 ?side2 ?side3 ?side4 A29.out).mono ?_); (case side1 => repeat (first | exact (Kd.R_reads' HO118.out).2.2 | (with_reducible refine Kd.C_alloc ?_ _) | (with_reducible refine Kd.C_drewN ?_ _) | (with_reducible refine Kd.C_drew ?_))); (case side2 => exact (Kd.R_reads' HO118.out).2.1); (case side3 => repeat (first | exact (Kd.R_reads' HO104.out).2.2 | (with_reducible refine Kd.C_alloc ?_ _) | (with_reducible refine Kd.C_drewN ?_ _) | (with_reducible refine Kd.C_drew ?_))); (case side4 => exact (Kd.R_reads' HO104.out).2.1); rintro e w' ⟨rfl, ⟨nd, rfl⟩⟩; obtain ⟨Ao36, co36, eo36⟩ := Kd.R_slice HO122.out; subst eo36) | (go_at_call 14; (with_reducible refine (spec_ValidBlocks.calls k _ _ t119 true _ ?side1 ?side2 A32.out).mono ?_); (case side1 => repeat (first | exact (Kd.R_reads' HO122.out).2.2 | (with_reducible refine Kd.C_alloc ?_ _) | (with_reducible refine Kd.C_drewN ?_ _) | (with_reducible refine Kd.C_drew ?_))); (case side2 => exact (Kd.R_reads' HO122.out).2.1); rintro e w' ⟨rfl, ⟨nd, rfl⟩⟩; obtain ⟨Ao37, co37, eo37⟩ := Kd.R_slice HO126.out; subst eo37))
                      go_meet
                      case rel => exact ⟨_, (((t123.length : Int) != 1)), (by first | rfl | (simp; done) | (simp [*]; done)), H', ⟨by first | omega | exact Nat.le_refl _⟩, ⟨by (with_reducible repeat (first | apply Kd.R_alloc | apply Kd.R_drewN | apply Kd.R_drew)); exact Kd.R_mono HO104.out (fun _ hk => ⟨hk.1.1.1.1.2, ⟨hk.2, hk.1.1.1.2⟩⟩)⟩, ⟨by (with_reducible repeat (first | apply Kd.R_alloc | apply Kd.R_drewN | apply Kd.R_drew)); exact Kd.R_mono HO107.out (fun _ hk => ⟨hk.1.1.1.1.2, ⟨hk.2, hk.1.1.1.2⟩⟩)⟩, ⟨by (with_reducible repeat (first | apply Kd.R_alloc | apply Kd.R_drewN | apply Kd.R_drew)); exact Kd.R_mono HO122.out (fun _ hk => ⟨hk.1.1.1.1.2, ⟨hk.1.1.1.2, hk.2⟩⟩)⟩, ⟨by (with_reducible repeat (first | refine blk_drewN ?_ _ | refine blk_drew ?_ | refine blk_alloc ?_ _)); exact BK108.out⟩, ⟨by repeat (first | (with_reducible first | exact HB.out | apply below_alloc | apply pw_below_drewN | apply below_drew1 | refine below_set ?_ GE108.out) | exact HB.out)⟩⟩
                    · rw [if_neg c34] at H
                      have c34b0 : (t124 == 0) = false := beq_eq_false_iff_ne.mpr c34
                      have c34b1 : (t124 != 0) = true := bne_iff_ne.mpr c34
                      have H' := Aside0.mk H
                      clear H
                      obtain ⟨Ao38, co38, eo38⟩ := Kd.R_slice HO118.out
                      subst eo38
                      go_wp2_with (first | (go_at_call 13; (with_reducible refine (spec_SameBlocks.calls k _ _ t115 _ _ t102 true _ ?side1 ?side2 ?side3 ?side4 A29.out).mono ?_); (case side1 => repeat (first | exact (Kd.R_reads' HO118.out).2.2 | (with_reducible refine Kd.C_alloc ?_ _) | (with_reducible refine Kd.C_drewN ?_ _) | (with_reducible refine Kd.C_drew ?_))); (case side2 => exact (Kd.R_reads' HO118.out).2.1); (case side3 => repeat (first | exact (Kd.R_reads' HO104.out).2.2 | (with_reducible refine Kd.C_alloc ?_ _) | (with_reducible refine Kd.C_drewN ?_ _) | (with_reducible refine Kd.C_drew ?_))); (case side4 => exact (Kd.R_reads' HO104.out).2.1); rintro e w' ⟨rfl, ⟨nd, rfl⟩⟩; obtain ⟨Ao39, co39, eo39⟩ := Kd.R_slice HO122.out; subst eo39) | (go_at_call 14; (with_reducible refine (spec_ValidBlocks.calls k _ _ t119 true _ ?side1 ?side2 A32.out).mono ?_); (case side1 => repeat (first | exact (Kd.R_reads' HO122.out).2.2 | (with_reducible refine Kd.C_alloc ?_ _) | (with_reducible refine Kd.C_drewN ?_ _) | (with_reducible refine Kd.C_drew ?_))); (case side2 => exact (Kd.R_reads' HO122.out).2.1); rintro e w' ⟨rfl, ⟨nd, rfl⟩⟩))
                      go_meet
                      case rel => exact ⟨_, (true), (by first | rfl | (simp; done) | (simp [*]; done)), H', ⟨by first | omega | exact Nat.le_refl _⟩, ⟨by (with_reducible repeat (first | apply Kd.R_alloc | apply Kd.R_drewN | apply Kd.R_drew)); exact Kd.R_mono HO104.out (fun _ hk => ⟨hk.1.1.1.1.2, ⟨hk.2, hk.1.1.1.2⟩⟩)⟩, ⟨by (with_reducible repeat (first | apply Kd.R_alloc | apply Kd.R_drewN | apply Kd.R_drew)); exact Kd.R_mono HO107.out (fun _ hk => ⟨hk.1.1.1.1.2, ⟨hk.2, hk.1.1.1.2⟩⟩)⟩, ⟨by (with_reducible repeat (first | apply Kd.R_alloc | apply Kd.R_drewN | apply Kd.R_drew)); exact Kd.R_mono HO122.out (fun _ hk => ⟨hk.1.1.1.1.2, ⟨hk.1.1.1.2, hk.2⟩⟩)⟩, ⟨by (with_reducible repeat (first | refine blk_drewN ?_ _ | refine blk_drew ?_ | refine blk_alloc ?_ _)); exact BK108.out⟩, ⟨by repeat (first | (with_reducible first | exact HB.out | apply below_alloc | apply pw_below_drewN | apply below_drew1 | refine below_set ?_ GE108.out) | exact HB.out)⟩⟩
                  · replace c33 := Bool.eq_false_iff.mpr c33
                    subst c33
                    have H1 : (laws_FnBlocks.j0 k t102 t105 t119 true) = some r := by rw [if_neg (show ¬ (false = true) by decide)] at H; exact H
                    clear H
                    have H := H1
                    clear H1
                    have H' := Aside0.mk H
                    clear H
                    obtain ⟨Ao40, co40, eo40⟩ := Kd.R_slice HO118.out
                    subst eo40
                    go_wp2_with (first | (go_at_call 13; (with_reducible refine (spec_SameBlocks.calls k _ _ t115 _ _ t102 true _ ?side1 ?side2 ?side3 ?side4 A29.out).mono ?_); (case side1 => repeat (first | exact (Kd.R_reads' HO118.out).2.2 | (with_reducible refine Kd.C_alloc ?_ _) | (with_reducible refine Kd.C_drewN ?_ _) | (with_reducible refine Kd.C_drew ?_))); (case side2 => exact (Kd.R_reads' HO118.out).2.1); (case side3 => repeat (first | exact (Kd.R_reads' HO104.out).2.2 | (with_reducible refine Kd.C_alloc ?_ _) | (with_reducible refine Kd.C_drewN ?_ _) | (with_reducible refine Kd.C_drew ?_))); (case side4 => exact (Kd.R_reads' HO104.out).2.1); rintro e w' ⟨rfl, ⟨nd, rfl⟩⟩; obtain ⟨Ao41, co41, eo41⟩ := Kd.R_slice HO122.out; subst eo41) | (go_at_call 14; (with_reducible refine (spec_ValidBlocks.calls k _ _ t119 false _ ?side1 ?side2 A32.out).mono ?_); (case side1 => repeat (first | exact (Kd.R_reads' HO122.out).2.2 | (with_reducible refine Kd.C_alloc ?_ _) | (with_reducible refine Kd.C_drewN ?_ _) | (with_reducible refine Kd.C_drew ?_))); (case side2 => exact (Kd.R_reads' HO122.out).2.1); rintro e w' ⟨rfl, ⟨nd, rfl⟩⟩))
                    go_meet
                    case rel => exact ⟨_, (true), (by first | rfl | (simp; done) | (simp [*]; done)), H', ⟨by first | omega | exact Nat.le_refl _⟩, ⟨by (with_reducible repeat (first | apply Kd.R_alloc | apply Kd.R_drewN | apply Kd.R_drew)); exact Kd.R_mono HO104.out (fun _ hk => ⟨hk.1.1.1.1.2, ⟨hk.2, hk.1.1.1.2⟩⟩)⟩, ⟨by (with_reducible repeat (first | apply Kd.R_alloc | apply Kd.R_drewN | apply Kd.R_drew)); exact Kd.R_mono HO107.out (fun _ hk => ⟨hk.1.1.1.1.2, ⟨hk.2, hk.1.1.1.2⟩⟩)⟩, ⟨by (with_reducible repeat (first | apply Kd.R_alloc | apply Kd.R_drewN | apply Kd.R_drew)); exact Kd.R_mono HO122.out (fun _ hk => ⟨hk.1.1.1.1.2, ⟨hk.1.1.1.2, hk.2⟩⟩)⟩, ⟨by (with_reducible repeat (first | refine blk_drewN ?_ _ | refine blk_drew ?_ | refine blk_alloc ?_ _)); exact BK108.out⟩, ⟨by repeat (first | (with_reducible first | exact HB.out | apply below_alloc | apply pw_below_drewN | apply below_drew1 | refine below_set ?_ GE108.out) | exact HB.out)⟩⟩
                · rw [if_neg c31] at H
                  have c31b0 : (t120 == 0) = false := beq_eq_false_iff_ne.mpr c31
                  have c31b1 : (t120 != 0) = true := bne_iff_ne.mpr c31
                  have H' := Aside0.mk H
                  clear H
                  obtain ⟨Ao42, co42, eo42⟩ := Kd.R_slice HO118.out
                  subst eo42
                  go_wp2_with (first | (go_at_call 13; (with_reducible refine (spec_SameBlocks.calls k _ _ t115 _ _ t102 true _ ?side1 ?side2 ?side3 ?side4 A29.out).mono ?_); (case side1 => repeat (first | exact (Kd.R_reads' HO118.out).2.2 | (with_reducible refine Kd.C_alloc ?_ _) | (with_reducible refine Kd.C_drewN ?_ _) | (with_reducible refine Kd.C_drew ?_))); (case side2 => exact (Kd.R_reads' HO118.out).2.1); (case side3 => repeat (first | exact (Kd.R_reads' HO104.out).2.2 | (with_reducible refine Kd.C_alloc ?_ _) | (with_reducible refine Kd.C_drewN ?_ _) | (with_reducible refine Kd.C_drew ?_))); (case side4 => exact (Kd.R_reads' HO104.out).2.1); rintro e w' ⟨rfl, ⟨nd, rfl⟩⟩))
                  go_meet
                  case rel => exact ⟨_, (true), (by first | rfl | (simp; done) | (simp [*]; done)), H', ⟨by first | omega | exact Nat.le_refl _⟩, ⟨by (with_reducible repeat (first | apply Kd.R_alloc | apply Kd.R_drewN | apply Kd.R_drew)); exact Kd.R_mono HO104.out (fun _ hk => ⟨hk.1.1.1.1.2, ⟨hk.2, hk.1.1.1.2⟩⟩)⟩, ⟨by (with_reducible repeat (first | apply Kd.R_alloc | apply Kd.R_drewN | apply Kd.R_drew)); exact Kd.R_mono HO107.out (fun _ hk => ⟨hk.1.1.1.1.2, ⟨hk.2, hk.1.1.1.2⟩⟩)⟩, ⟨by (with_reducible repeat (first | apply Kd.R_alloc | apply Kd.R_drewN | apply Kd.R_drew)); exact Kd.R_mono HO122.out (fun _ hk => ⟨hk.1.1.1.1.2, ⟨hk.1.1.1.2, hk.2⟩⟩)⟩, ⟨by (with_reducible repeat (first | refine blk_drewN ?_ _ | refine blk_drew ?_ | refine blk_alloc ?_ _)); exact BK108.out⟩, ⟨by repeat (first | (with_reducible first | exact HB.out | apply below_alloc | apply pw_below_drewN | apply below_drew1 | refine below_set ?_ GE108.out) | exact HB.out)⟩⟩
              · replace c30 := Bool.eq_false_iff.mpr c30
                subst c30
                have H1 : (laws_FnBlocks.j0 k t102 t105 t119 true) = some r := by rw [if_neg (show ¬ (false = true) by decide)] at H; exact H
                clear H
                have H := H1
                clear H1
                have H' := Aside0.mk H
                clear H
                obtain ⟨Ao43, co43, eo43⟩ := Kd.R_slice HO118.out
                subst eo43
                go_wp2_with (first | (go_at_call 13; (with_reducible refine (spec_SameBlocks.calls k _ _ t115 _ _ t102 false _ ?side1 ?side2 ?side3 ?side4 A29.out).mono ?_); (case side1 => repeat (first | exact (Kd.R_reads' HO118.out).2.2 | (with_reducible refine Kd.C_alloc ?_ _) | (with_reducible refine Kd.C_drewN ?_ _) | (with_reducible refine Kd.C_drew ?_))); (case side2 => exact (Kd.R_reads' HO118.out).2.1); (case side3 => repeat (first | exact (Kd.R_reads' HO104.out).2.2 | (with_reducible refine Kd.C_alloc ?_ _) | (with_reducible refine Kd.C_drewN ?_ _) | (with_reducible refine Kd.C_drew ?_))); (case side4 => exact (Kd.R_reads' HO104.out).2.1); rintro e w' ⟨rfl, ⟨nd, rfl⟩⟩))
                go_meet
                case rel => exact ⟨_, (true), (by first | rfl | (simp; done) | (simp [*]; done)), H', ⟨by first | omega | exact Nat.le_refl _⟩, ⟨by (with_reducible repeat (first | apply Kd.R_alloc | apply Kd.R_drewN | apply Kd.R_drew)); exact Kd.R_mono HO104.out (fun _ hk => ⟨hk.1.1.1.1.2, ⟨hk.2, hk.1.1.1.2⟩⟩)⟩, ⟨by (with_reducible repeat (first | apply Kd.R_alloc | apply Kd.R_drewN | apply Kd.R_drew)); exact Kd.R_mono HO107.out (fun _ hk => ⟨hk.1.1.1.1.2, ⟨hk.2, hk.1.1.1.2⟩⟩)⟩, ⟨by (with_reducible repeat (first | apply Kd.R_alloc | apply Kd.R_drewN | apply Kd.R_drew)); exact Kd.R_mono HO122.out (fun _ hk => ⟨hk.1.1.1.1.2, ⟨hk.1.1.1.2, hk.2⟩⟩)⟩, ⟨by (with_reducible repeat (first | refine blk_drewN ?_ _ | refine blk_drew ?_ | refine blk_alloc ?_ _)); exact BK108.out⟩, ⟨by repeat (first | (with_reducible first | exact HB.out | apply below_alloc | apply pw_below_drewN | apply below_drew1 | refine below_set ?_ GE108.out) | exact HB.out)⟩⟩
            · rw [if_neg c28] at H
              have c28b0 : (t116 == 0) = false := beq_eq_false_iff_ne.mpr c28
              have c28b1 : (t116 != 0) = true := bne_iff_ne.mpr c28
              have H' := Aside0.mk H
              clear H
              go_wp2
              go_meet
              case rel => exact ⟨_, (true), (by first | rfl | (simp; done) | (simp [*]; done)), H', ⟨by first | omega | exact Nat.le_refl _⟩, ⟨by (with_reducible repeat (first | apply Kd.R_alloc | apply Kd.R_drewN | apply Kd.R_drew)); exact Kd.R_mono HO104.out (fun _ hk => ⟨hk.1.1.1.1.2, ⟨hk.2, hk.1.1.1.2⟩⟩)⟩, ⟨by (with_reducible repeat (first | apply Kd.R_alloc | apply Kd.R_drewN | apply Kd.R_drew)); exact Kd.R_mono HO107.out (fun _ hk => ⟨hk.1.1.1.1.2, ⟨hk.2, hk.1.1.1.2⟩⟩)⟩, ⟨by (with_reducible repeat (first | apply Kd.R_alloc | apply Kd.R_drewN | apply Kd.R_drew)); exact Kd.R_mono HO122.out (fun _ hk => ⟨hk.1.1.1.1.2, ⟨hk.1.1.1.2, hk.2⟩⟩)⟩, ⟨by (with_reducible repeat (first | refine blk_drewN ?_ _ | refine blk_drew ?_ | refine blk_alloc ?_ _)); exact BK108.out⟩, ⟨by repeat (first | (with_reducible first | exact HB.out | apply below_alloc | apply pw_below_drewN | apply below_drew1 | refine below_set ?_ GE108.out) | exact HB.out)⟩⟩
          · rw [if_neg c27] at H
            have c27b0 : (t113.toList == ([116] : List UInt8)) = false := beq_eq_false_iff_ne.mpr c27
            have c27b1 : (t113.toList != ([116] : List UInt8)) = true := bne_iff_ne.mpr c27
            have H' := Aside0.mk H
            clear H
            go_wp2
            go_meet
            case rel => exact ⟨_, (true), (by first | rfl | (simp; done) | (simp [*]; done)), H', ⟨by first | omega | exact Nat.le_refl _⟩, ⟨by (with_reducible repeat (first | apply Kd.R_alloc | apply Kd.R_drewN | apply Kd.R_drew)); exact Kd.R_mono HO104.out (fun _ hk => ⟨hk.1.1.1.1.2, ⟨hk.2, hk.1.1.1.2⟩⟩)⟩, ⟨by (with_reducible repeat (first | apply Kd.R_alloc | apply Kd.R_drewN | apply Kd.R_drew)); exact Kd.R_mono HO107.out (fun _ hk => ⟨hk.1.1.1.1.2, ⟨hk.2, hk.1.1.1.2⟩⟩)⟩, ⟨by (with_reducible repeat (first | apply Kd.R_alloc | apply Kd.R_drewN | apply Kd.R_drew)); exact Kd.R_mono HO122.out (fun _ hk => ⟨hk.1.1.1.1.2, ⟨hk.1.1.1.2, hk.2⟩⟩)⟩, ⟨by (with_reducible repeat (first | refine blk_drewN ?_ _ | refine blk_drew ?_ | refine blk_alloc ?_ _)); exact BK108.out⟩, ⟨by repeat (first | (with_reducible first | exact HB.out | apply below_alloc | apply pw_below_drewN | apply below_drew1 | refine below_set ?_ GE108.out) | exact HB.out)⟩⟩
        · rw [if_neg c26] at H
          have c26b0 : (t114 == 0) = false := beq_eq_false_iff_ne.mpr c26
          have c26b1 : (t114 != 0) = true := bne_iff_ne.mpr c26
          have H' := Aside0.mk H
          clear H
          go_wp2
          go_meet
          case rel => exact ⟨_, (true), (by first | rfl | (simp; done) | (simp [*]; done)), H', ⟨by first | omega | exact Nat.le_refl _⟩, ⟨by (with_reducible repeat (first | apply Kd.R_alloc | apply Kd.R_drewN | apply Kd.R_drew)); exact Kd.R_mono HO104.out (fun _ hk => ⟨hk.1.1.1.1.2, ⟨hk.2, hk.1.1.1.2⟩⟩)⟩, ⟨by (with_reducible repeat (first | apply Kd.R_alloc | apply Kd.R_drewN | apply Kd.R_drew)); exact Kd.R_mono HO107.out (fun _ hk => ⟨hk.1.1.1.1.2, ⟨hk.2, hk.1.1.1.2⟩⟩)⟩, ⟨by (with_reducible repeat (first | apply Kd.R_alloc | apply Kd.R_drewN | apply Kd.R_drew)); exact Kd.R_mono HO122.out (fun _ hk => ⟨hk.1.1.1.1.2, ⟨hk.1.1.1.2, hk.2⟩⟩)⟩, ⟨by (with_reducible repeat (first | refine blk_drewN ?_ _ | refine blk_drew ?_ | refine blk_alloc ?_ _)); exact BK108.out⟩, ⟨by repeat (first | (with_reducible first | exact HB.out | apply below_alloc | apply pw_below_drewN | apply below_drew1 | refine below_set ?_ GE108.out) | exact HB.out)⟩⟩
      · rw [if_neg c25] at H
        have c25b0 : (t112 == 0) = false := beq_eq_false_iff_ne.mpr c25
        have c25b1 : (t112 != 0) = true := bne_iff_ne.mpr c25
        (first | rw [c25b0] | (simp only [i64_w, i32_w]; rw [c25b0]) | skip)
        have H' := Aside0.mk H
        clear H
        go_wp2
        go_meet
        case rel => exact ⟨_, (true), (by first | rfl | (simp; done) | (simp [*]; done)), H', ⟨by first | omega | exact Nat.le_refl _⟩, ⟨by (with_reducible repeat (first | apply Kd.R_alloc | apply Kd.R_drewN | apply Kd.R_drew)); exact Kd.R_mono HO104.out (fun _ hk => ⟨hk.1.1.1.1.2, ⟨hk.2, hk.1.1.1.2⟩⟩)⟩, ⟨by (with_reducible repeat (first | apply Kd.R_alloc | apply Kd.R_drewN | apply Kd.R_drew)); exact Kd.R_mono HO107.out (fun _ hk => ⟨hk.1.1.1.1.2, ⟨hk.2, hk.1.1.1.2⟩⟩)⟩, ⟨by (with_reducible repeat (first | apply Kd.R_alloc | apply Kd.R_drewN | apply Kd.R_drew)); exact Kd.R_mono HO122.out (fun _ hk => ⟨hk.1.1.1.1.2, ⟨hk.1.1.1.2, hk.2⟩⟩)⟩, ⟨by (with_reducible repeat (first | refine blk_drewN ?_ _ | refine blk_drew ?_ | refine blk_alloc ?_ _)); exact BK108.out⟩, ⟨by repeat (first | (with_reducible first | exact HB.out | apply below_alloc | apply pw_below_drewN | apply below_drew1 | refine below_set ?_ GE108.out) | exact HB.out)⟩⟩
    case rest =>
      clear HC12
      try clear c1
      try clear c2
      try clear p2
      try clear c3
      try clear c4
      try clear c6
      try clear c7
      try clear c8
      try clear c9
      try clear c10
      try clear c11
      try clear c12
      try clear c25
      try clear c25b0
      try clear c25b1
      try clear c26
      try clear c26b0
      try clear c26b1
      try clear c27
      try clear c27b0
      try clear c27b1
      try clear c28
      try clear c28b0
      try clear c28b1
      try clear c30
      try clear c31
      try clear c31b0
      try clear c31b1
      try clear c33
      try clear c34
      try clear c34b0
      try clear c34b1
      try clear hcz16_0
      try clear hcz16_1
      try clear hcz16_2
      try clear hfz16_0
      try clear hfz16_1
      try clear hfz16_2
      obtain ⟨kq, x93_11, rfl, HA, HJ11, HO_5, HO_6, HO_14, BK108, HB⟩ := hcut
      cases kq with
      | zero => exact absurd HA.out (by simp [laws_FnBlocks.j0])
      | succ kj11 =>
        have H := HA.out
        clear HA
        simp only [laws_FnBlocks.j0] at H
        by_cases c44 : x93_11 = true
        · subst c44
          have H1 : (some false) = some r := by rw [if_pos rfl] at H; exact H
          clear H
          have H := H1
          clear H1
          obtain rfl := Option.some.inj H
          go_wp2
          go_ret
          exact ⟨by first | rfl | (simp [errW_none, errW_some] <;> rfl) | (simp [*, errW_none, errW_some] <;> rfl), by repeat (first | (with_reducible first | exact HB.out | apply below_alloc | apply pw_below_drewN | apply below_drew1 | refine below_set ?_ GE108.out) | exact HB.out)⟩
        · replace c44 := Bool.eq_false_iff.mpr c44
          subst c44
          have H1 : (laws_FnBlocks.l0 kj11 t102 t105 t119 0) = some r := by rw [if_neg (show ¬ (false = true) by decide)] at H; exact H
          clear H
          have H := H1
          clear H1
          have H' := Aside0.mk H
          clear H
          go_wp2
          go_loopg [18] kj11 (fun kq v18 w' => ∃ (x18_2 : Int), v18 = .int .i64 x18_2 ∧ Aside0 (laws_FnBlocks.l0 kq t102 t105 t119 x18_2 = some r) ∧ Aside0 (kq ≤ kj11) ∧ Aside0 (Kd.R k27 27 w' w.heap.size (fun k_ => some k_ ≠ ((.slice Ao22 t105.length co22) : Value).ownBlock ∧ some k_ ≠ (v121 : Value).ownBlock ∧ k_ ≠ gb108) (.slice Ao17 t102.length co17) t102) ∧ Aside0 (Kd.R k27 27 w' w.heap.size (fun k_ => some k_ ≠ ((.slice Ao17 t102.length co17) : Value).ownBlock ∧ some k_ ≠ (v121 : Value).ownBlock ∧ k_ ≠ gb108) (.slice Ao22 t105.length co22) t105) ∧ Aside0 (Kd.R k27 27 w' w.heap.size (fun k_ => some k_ ≠ ((.slice Ao17 t102.length co17) : Value).ownBlock ∧ some k_ ≠ ((.slice Ao22 t105.length co22) : Value).ownBlock ∧ k_ ≠ gb108) v121 t119) ∧ Aside0 (w'.heap[gb108]? = some (.cells #[.string (⟨#[110, 101, 119]⟩ : ByteArray), .string (⟨#[120]⟩ : ByteArray), .string (⟨#[116]⟩ : ByteArray)] 27 (0, 0))) ∧ Aside0 (Below w.heap.size w w'))
          case atStart => exact ⟨(0), (by first | rfl | (simp; done) | (simp [*]; done)), H', ⟨Nat.le_refl _⟩, ⟨by (with_reducible repeat (first | apply Kd.R_alloc | apply Kd.R_drewN | apply Kd.R_drew)); exact HO_5.out⟩, ⟨by (with_reducible repeat (first | apply Kd.R_alloc | apply Kd.R_drewN | apply Kd.R_drew)); exact HO_6.out⟩, ⟨by (with_reducible repeat (first | apply Kd.R_alloc | apply Kd.R_drewN | apply Kd.R_drew)); exact HO_14.out⟩, ⟨by (with_reducible repeat (first | refine blk_drewN ?_ _ | refine blk_drew ?_ | refine blk_alloc ?_ _)); exact BK108.out⟩, ⟨by repeat (first | (with_reducible first | exact HB.out | apply below_alloc | apply pw_below_drewN | apply below_drew1 | refine below_set ?_ GE108.out) | exact HB.out)⟩⟩
          case round =>
            clear H'
            try clear c1
            try clear c2
            try clear p2
            try clear c3
            try clear c4
            try clear c6
            try clear c7
            try clear c8
            try clear c9
            try clear c10
            try clear c11
            try clear c12
            try clear c25
            try clear c25b0
            try clear c25b1
            try clear c26
            try clear c26b0
            try clear c26b1
            try clear c27
            try clear c27b0
            try clear c27b1
            try clear c28
            try clear c28b0
            try clear c28b1
            try clear c30
            try clear c31
            try clear c31b0
            try clear c31b1
            try clear c33
            try clear c34
            try clear c34b0
            try clear c34b1
            try clear c44
            try clear hcz16_0
            try clear hcz16_1
            try clear hcz16_2
            try clear hfz16_0
            try clear hfz16_1
            try clear hfz16_2
            try clear p2
            obtain ⟨x18_2, rfl, HA, HK2, HO_5, HO_6, HO_14, BK108, HB⟩ := hrel
            cases gk with
            | zero => exact absurd HA.out (by simp [laws_FnBlocks.l0])
            | succ k2 =>
              have H := HA.out
              clear HA
              simp only [laws_FnBlocks.l0] at H
              by_cases c45 : x18_2 < (t105.length : Int)
              · rw [if_pos c45] at H
                have c45b0 : decide (x18_2 < (t105.length : Int)) = true := decide_eq_true c45
                clear c45
                by_cases c46 : 0 ≤ x18_2
                · rw [if_pos c46] at H
                  have c46b0 : decide (0 ≤ x18_2) = true := decide_eq_true c46
                  clear c46
                  replace H := Option.bind_eq_some_iff.mp H
                  obtain ⟨⟨t131, t132⟩, A470, H⟩ := H
                  replace H : (if t132 = 0 then (if t131.toList = ((rd_T27 t105 x18_2).f2).toList then (laws_FnBlocks.l0 k2 t102 t105 t119 (wrap64 (x18_2 + 1))) else (some false)) else (some false)) = some r := H
                  have A47 := Aside0.mk A470
                  clear A470
                  by_cases c48 : t132 = 0
                  · rw [if_pos c48] at H
                    have c48b0 : (t132 == 0) = true := beq_iff_eq.mpr c48
                    have c48b1 : (t132 != 0) = false := bne_eq_false_iff_eq.mpr c48
                    clear c48
                    by_cases c49 : t131.toList = ((rd_T27 t105 x18_2).f2).toList
                    · rw [if_pos c49] at H
                      have c49b0 : (t131.toList == ((rd_T27 t105 x18_2).f2).toList) = true := beq_iff_eq.mpr c49
                      have c49b1 : (t131.toList != ((rd_T27 t105 x18_2).f2).toList) = false := bne_eq_false_iff_eq.mpr c49
                      clear c49
                      have H' := Aside0.mk H
                      clear H
                      try go_wp2
                      have n0_ := Aside0.mk (Kd.R_drew HO_5.out)
                      have n1_ := Aside0.mk (Kd.R_drew HO_6.out)
                      have n2_ := Aside0.mk (Kd.R_drew HO_14.out)
                      have n3_ := Aside0.mk (blk_drew BK108.out)
                      have n4_ := Aside0.mk (below_drew1 HB.out)
                      clear HO_5
                      clear HO_6
                      clear HO_14
                      clear BK108
                      clear HB
                      have HO_5 := n0_
                      have HO_6 := n1_
                      have HO_14 := n2_
                      have BK108 := n3_
                      have HB := n4_
                      clear n0_ n1_ n2_ n3_ n4_
                      have p129 : 0 ≤ (x18_2 : Int) := of_decide_eq_true (by first | (with_reducible assumption) | assumption)
                      have q129 : x18_2 < (t105.length : Int) := of_decide_eq_true (by first | (with_reducible assumption) | assumption)
                      obtain ⟨ad129, e129, hx129_0, hx129_1, hx129_2⟩ := at_T27 (Kd.R_reads' HO_6.out).2.2 x18_2 p129 q129
                      cases e129
                      replace p129 := eq_true p129
                      replace q129 := eq_true q129
                      have p130 : 0 ≤ (x18_2 : Int) := of_decide_eq_true (by first | (with_reducible assumption) | assumption)
                      have q130 : x18_2 < (t105.length : Int) := of_decide_eq_true (by first | (with_reducible assumption) | assumption)
                      obtain ⟨ad130, e130, hx130_0, hx130_1, hx130_2⟩ := at_T27 (Kd.R_reads' HO_6.out).2.2 x18_2 p130 q130
                      obtain rfl : ad129 = ad130 := (by injection e130)
                      replace p130 := eq_true p130
                      replace q130 := eq_true q130
                      obtain ⟨Ao51, co51, eo51⟩ := Kd.R_slice HO_14.out
                      (first | subst eo51 | (injection eo51 with f1_ f2_ f3_; have f4_ := f1_.symm; have f5_ := f3_.symm; clear f1_ f2_ f3_; subst f4_; subst f5_))
                      refine start_ (n := 17) (S := fun w' => w'.cell? (ad129.add ((x18_2).toNat * 3)) = some (.string ((rd_T27 t105 x18_2).f0)) ∧ w'.cell? ⟨(ad129.add ((x18_2).toNat * 3)).block, (ad129.add ((x18_2).toNat * 3)).off + 1, none⟩ = some (.string ((rd_T27 t105 x18_2).f1)) ∧ w'.cell? ⟨(ad129.add ((x18_2).toNat * 3)).block, (ad129.add ((x18_2).toNat * 3)).off + 2, none⟩ = some (.string ((rd_T27 t105 x18_2).f2)) ∧ w'.cell? (ad129.add ((x18_2).toNat * 3)) = some (.string ((rd_T27 t105 x18_2).f0)) ∧ w'.cell? ⟨(ad129.add ((x18_2).toNat * 3)).block, (ad129.add ((x18_2).toNat * 3)).off + 1, none⟩ = some (.string ((rd_T27 t105 x18_2).f1)) ∧ w'.cell? ⟨(ad129.add ((x18_2).toNat * 3)).block, (ad129.add ((x18_2).toNat * 3)).off + 2, none⟩ = some (.string ((rd_T27 t105 x18_2).f2))) (ds := []) #[false, false, false, false, false, false, false, false, false, false, false, false, false, false, false, false, false] (by kernel_rfl) rfl rfl ⟨hx129_0, hx129_1, hx129_2, hx130_0, hx130_1, hx130_2⟩ (fun hHeld => ?_); refine with_tabW laws_FnBlocks.tab16 laws_FnBlocks.bits16 (fun HT_ HW_ => ?_)
                      generalize wr.drew = w50 at HO_5 HO_6 HO_14 BK108 HB hx129_0 hx129_1 hx129_2 hx130_0 hx130_1 hx130_2 hHeld ⊢
                      refine pure_ (i := 0) (N := some 101) (v := ?_) (a' := ?_) #[true, false, false, false, false, false, false, false, false, false, false, false, false, false, false, false, false] rfl rfl (any_of HT_.out (by kernel_rfl)) (fun _ _ _ h => h) (Or.inl ⟨by rfl, ?_⟩) ?_ ?_
                      rotate_left
                      · intro w'
                        go_simp
                        with_reducible rfl
                      rotate_left
                      · simp only [Act.put, List.setIfInBounds_toArray, List.set_cons_zero, List.set_cons_succ, i64_w, i32_w]
                        rfl
                      refine pure_ (i := 1) (N := some 102) (v := ?_) (a' := ?_) #[true, true, false, false, false, false, false, false, false, false, false, false, false, false, false, false, false] rfl rfl (any_of HT_.out (by kernel_rfl)) (fun _ _ _ h => h) (Or.inl ⟨by rfl, ?_⟩) ?_ ?_
                      rotate_left
                      · intro w'
                        go_simp
                        with_reducible rfl
                      rotate_left
                      · simp only [Act.put, List.setIfInBounds_toArray, List.set_cons_zero, List.set_cons_succ, i64_w, i32_w]
                        rfl
                      refine pure_ (i := 2) (N := some 103) (v := ?_) (a' := ?_) #[true, true, true, false, false, false, false, false, false, false, false, false, false, false, false, false, false] rfl rfl (any_of HT_.out (by kernel_rfl)) (fun _ _ _ h => h) (Or.inl ⟨by rfl, ?_⟩) ?_ ?_
                      rotate_left
                      · intro w'
                        go_simp
                        with_reducible rfl
                      rotate_left
                      · simp only [Act.put, List.setIfInBounds_toArray, List.set_cons_zero, List.set_cons_succ, i64_w, i32_w]
                        rfl
                      refine pure_ (i := 3) (N := some 104) (v := ?_) (a' := ?_) #[true, true, true, true, false, false, false, false, false, false, false, false, false, false, false, false, false] rfl rfl (any_of HT_.out (by kernel_rfl)) (fun _ _ _ h => h) (Or.inl ⟨by rfl, ?_⟩) ?_ ?_
                      rotate_left
                      · intro w'
                        go_simp
                        with_reducible rfl
                      rotate_left
                      · simp only [Act.put, List.setIfInBounds_toArray, List.set_cons_zero, List.set_cons_succ, i64_w, i32_w]
                        rfl
                      refine pure_ (i := 4) (N := some 105) (v := ?_) (a' := ?_) #[true, true, true, true, true, false, false, false, false, false, false, false, false, false, false, false, false] rfl rfl (any_of HT_.out (by kernel_rfl)) (fun _ _ _ h => h) (Or.inl ⟨by rfl, ?_⟩) ?_ ?_
                      rotate_left
                      · intro w'
                        go_simp
                        with_reducible rfl
                      rotate_left
                      · simp only [Act.put, List.setIfInBounds_toArray, List.set_cons_zero, List.set_cons_succ, i64_w, i32_w]
                        rfl
                      refine pure_ (i := 6) (N := some 107) (v := ?_) (a' := ?_) #[true, true, true, true, true, false, true, false, false, false, false, false, false, false, false, false, false] rfl rfl (any_of HT_.out (by kernel_rfl)) (fun _ _ _ h => h) (Or.inl ⟨by rfl, ?_⟩) ?_ ?_
                      rotate_left
                      · intro w'
                        go_simp
                        with_reducible rfl
                      rotate_left
                      · simp only [Act.put, List.setIfInBounds_toArray, List.set_cons_zero, List.set_cons_succ, i64_w, i32_w]
                        rfl
                      refine pure_ (i := 7) (N := some 108) (v := ?_) (a' := ?_) #[true, true, true, true, true, false, true, true, false, false, false, false, false, false, false, false, false] rfl rfl (any_of HT_.out (by kernel_rfl)) (fun _ _ _ h => h) (Or.inl ⟨by rfl, ?_⟩) ?_ ?_
                      rotate_left
                      · intro w'
                        go_simp
                        with_reducible rfl
                      rotate_left
                      · simp only [Act.put, List.setIfInBounds_toArray, List.set_cons_zero, List.set_cons_succ, i64_w, i32_w]
                        rfl
                      refine pure_ (i := 8) (N := some 109) (v := ?_) (a' := ?_) #[true, true, true, true, true, false, true, true, true, false, false, false, false, false, false, false, false] rfl rfl (any_of HT_.out (by kernel_rfl)) (fun _ _ _ h => h) (Or.inl ⟨by rfl, ?_⟩) ?_ ?_
                      rotate_left
                      · intro w'
                        go_simp
                        with_reducible rfl
                      rotate_left
                      · simp only [Act.put, List.setIfInBounds_toArray, List.set_cons_zero, List.set_cons_succ, i64_w, i32_w]
                        rfl
                      refine pure_ (i := 9) (N := some 110) (v := ?_) (a' := ?_) #[true, true, true, true, true, false, true, true, true, true, false, false, false, false, false, false, false] rfl rfl (any_of HT_.out (by kernel_rfl)) (fun _ _ _ h => h) (Or.inl ⟨by rfl, ?_⟩) ?_ ?_
                      rotate_left
                      · intro w'
                        go_simp
                        with_reducible rfl
                      rotate_left
                      · simp only [Act.put, List.setIfInBounds_toArray, List.set_cons_zero, List.set_cons_succ, i64_w, i32_w]
                        rfl
                      refine take_ (i := 5) (N := some 106) (v := ?_) (a' := ?_) #[true, true, true, true, true, true, true, true, true, true, false, false, false, false, false, false, false] rfl rfl (take_ofW HT_.out HW_.out (by kernel_rfl)) (fun _ _ _ h => h) (Or.inl ⟨by rfl, ?_⟩) hHeld ?_ ?_
                      rotate_left
                      · rintro w' ⟨s0, s1, s2, s3, s4, s5⟩
                        go_simp
                        with_reducible rfl
                      rotate_left
                      · simp only [Act.put, List.setIfInBounds_toArray, List.set_cons_zero, List.set_cons_succ, i64_w, i32_w]
                        rfl
                      refine take_ (i := 10) (N := some 111) (v := ?_) (a' := ?_) #[true, true, true, true, true, true, true, true, true, true, true, false, false, false, false, false, false] rfl rfl (take_ofW HT_.out HW_.out (by kernel_rfl)) (fun _ _ _ h => h) (Or.inl ⟨by rfl, ?_⟩) hHeld ?_ ?_
                      rotate_left
                      · rintro w' ⟨s0, s1, s2, s3, s4, s5⟩
                        go_simp
                        with_reducible rfl
                      rotate_left
                      · simp only [Act.put, List.setIfInBounds_toArray, List.set_cons_zero, List.set_cons_succ, i64_w, i32_w]
                        rfl
                      refine one_ (i := 11) (N := some 112) #[true, true, true, true, true, true, true, true, true, true, true, true, false, false, false, false, false] rfl rfl (one_of HT_.out (by kernel_rfl)) (by decide) (fun K hK => ?_)
                      refine goes_ Try.func9 (by kernel_rfl) rfl #[.slice Ao51 t119.length co51, .string ((rd_T27 t105 x18_2).f0), .string ((rd_T27 t105 x18_2).f1)] (by rfl) rfl rfl (by (try simp only [List.map_toArray, List.map_cons, List.map_nil]); first | done | rfl | (simp only [List.length_drop, List.length_take]; rfl)) ?_
                      with_reducible refine (impl_BlockNamed.calls k2 _ _ t119 ((rd_T27 t105 x18_2).f0) ((rd_T27 t105 x18_2).f1) t131 t132 _ ?side1 ?side2 A47.out ?side3).mono ?_
                      (case side1 => repeat (first | exact (Kd.R_reads' HO_14.out).2.2 | (with_reducible refine Kd.C_alloc ?_ _) | (with_reducible refine Kd.C_drewN ?_ _) | (with_reducible refine Kd.C_drew ?_)))
                      (case side2 => exact (Kd.R_reads' HO_14.out).2.1)
                      (case side3 => exact HasV.below HV.out (by repeat (first | (with_reducible first | exact HB.out | apply below_alloc | apply pw_below_drewN | apply below_drew1 | refine below_set ?_ GE108.out) | exact HB.out)))
                      rintro e w52 ⟨rfl, hb⟩
                      have HS0_ := (hb.cell (World.block_lt_of_cell? _ _ (hHeld.1))).trans (hHeld.1)
                      have HS1_ := (hb.cell (World.block_lt_of_cell? _ _ (hHeld.2.1))).trans (hHeld.2.1)
                      have HS2_ := (hb.cell (World.block_lt_of_cell? _ _ (hHeld.2.2.1))).trans (hHeld.2.2.1)
                      have HS3_ := (hb.cell (World.block_lt_of_cell? _ _ (hHeld.2.2.2.1))).trans (hHeld.2.2.2.1)
                      have HS4_ := (hb.cell (World.block_lt_of_cell? _ _ (hHeld.2.2.2.2.1))).trans (hHeld.2.2.2.2.1)
                      have HS5_ := (hb.cell (World.block_lt_of_cell? _ _ (hHeld.2.2.2.2.2))).trans (hHeld.2.2.2.2.2)
                      refine ⟨_, rfl, ?_⟩
                      have n0_ := Aside0.mk (Kd.R_below (by (with_reducible repeat (first | apply Kd.R_alloc | apply Kd.R_drewN | apply Kd.R_drew)); exact HO_5.out) hb)
                      have n1_ := Aside0.mk (Kd.R_below (by (with_reducible repeat (first | apply Kd.R_alloc | apply Kd.R_drewN | apply Kd.R_drew)); exact HO_6.out) hb)
                      have n2_ := Aside0.mk (Kd.R_below (by (with_reducible repeat (first | apply Kd.R_alloc | apply Kd.R_drewN | apply Kd.R_drew)); exact HO_14.out) hb)
                      have n3_ := Aside0.mk (blk_below (g := gb108) (o := .cells #[.string (⟨#[110, 101, 119]⟩ : ByteArray), .string (⟨#[120]⟩ : ByteArray), .string (⟨#[116]⟩ : ByteArray)] 27 (0, 0)) (by (with_reducible repeat (first | refine blk_drewN ?_ _ | refine blk_drew ?_ | refine blk_alloc ?_ _)); exact BK108.out) hb)
                      have n4_ := Aside0.mk (below_step (by repeat (first | (with_reducible first | exact HB.out | apply below_alloc | apply pw_below_drewN | apply below_drew1 | refine below_set ?_ GE108.out) | exact HB.out)) hb)
                      clear HO_5
                      clear HO_6
                      clear HO_14
                      clear BK108
                      clear HB
                      have HO_5 := n0_
                      have HO_6 := n1_
                      have HO_14 := n2_
                      have BK108 := n3_
                      have HB := n4_
                      clear n0_ n1_ n2_ n3_ n4_
                      (try clear hb)
                      (try clear hb2)
                      (try clear hk)
                      (try clear hi)
                      refine hK.out _ _ ⟨HS0_, HS1_, HS2_, HS3_, HS4_, HS5_⟩ (fun hHeld => ?_)
                      clear hK K
                      refine norm_ (a' := ?_) ?_ ?_
                      rotate_left
                      · show Act.put _ (some 112) _ = _
                        simp only [Act.put, List.setIfInBounds_toArray, List.set_cons_zero, List.set_cons_succ, i64_w, i32_w]
                        rfl
                      refine pure_ (i := 12) (N := some 100) (v := ?_) (a' := ?_) #[true, true, true, true, true, true, true, true, true, true, true, true, true, false, false, false, false] rfl rfl (any_of HT_.out (by kernel_rfl)) (fun _ _ _ h => h) (Or.inl ⟨by rfl, ?_⟩) ?_ ?_
                      rotate_left
                      · intro w'
                        go_simp
                        with_reducible rfl
                      rotate_left
                      · simp only [Act.put, List.setIfInBounds_toArray, List.set_cons_zero, List.set_cons_succ, i64_w, i32_w]
                        rfl
                      refine pure_ (i := 13) (N := some 113) (v := ?_) (a' := ?_) #[true, true, true, true, true, true, true, true, true, true, true, true, true, true, false, false, false] rfl rfl (any_of HT_.out (by kernel_rfl)) (fun _ _ _ h => h) (Or.inl ⟨by rfl, ?_⟩) ?_ ?_
                      rotate_left
                      · intro w'
                        go_simp
                        with_reducible rfl
                      rotate_left
                      · simp only [Act.put, List.setIfInBounds_toArray, List.set_cons_zero, List.set_cons_succ, i64_w, i32_w]
                        rfl
                      refine pure_ (i := 14) (N := some 114) (v := ?_) (a' := ?_) #[true, true, true, true, true, true, true, true, true, true, true, true, true, true, true, false, false] rfl rfl (any_of HT_.out (by kernel_rfl)) (fun _ _ _ h => h) (Or.inl ⟨by rfl, ?_⟩) ?_ ?_
                      rotate_left
                      · intro w'
                        go_simp
                        with_reducible rfl
                      rotate_left
                      · simp only [Act.put, List.setIfInBounds_toArray, List.set_cons_zero, List.set_cons_succ, i64_w, i32_w]
                        rfl
                      refine pure_ (i := 15) (N := some 19) (v := ?_) (a' := ?_) #[true, true, true, true, true, true, true, true, true, true, true, true, true, true, true, true, false] rfl rfl (any_of HT_.out (by kernel_rfl)) (fun _ _ _ h => h) (Or.inl ⟨by rfl, ?_⟩) ?_ ?_
                      rotate_left
                      · intro w'
                        go_simp
                        with_reducible rfl
                      rotate_left
                      · simp only [Act.put, List.setIfInBounds_toArray, List.set_cons_zero, List.set_cons_succ, i64_w, i32_w]
                        rfl
                      refine pure_ (i := 16) (N := some 20) (v := ?_) (a' := ?_) #[true, true, true, true, true, true, true, true, true, true, true, true, true, true, true, true, true] rfl rfl (any_of HT_.out (by kernel_rfl)) (fun _ _ _ h => h) (Or.inl ⟨by rfl, ?_⟩) ?_ ?_
                      rotate_left
                      · intro w'
                        go_simp
                        with_reducible rfl
                      rotate_left
                      · simp only [Act.put, List.setIfInBounds_toArray, List.set_cons_zero, List.set_cons_succ, i64_w, i32_w]
                        rfl
                      refine done_ (done_of HT_.out (by kernel_rfl)) ?_
                      have p133 : 0 ≤ (x18_2 : Int) := of_decide_eq_true (by first | (with_reducible assumption) | assumption)
                      have q133 : x18_2 < (t105.length : Int) := of_decide_eq_true (by first | (with_reducible assumption) | assumption)
                      obtain ⟨ad133, e133, hx133_0, hx133_1, hx133_2⟩ := at_T27 (Kd.R_reads' HO_6.out).2.2 x18_2 p133 q133
                      obtain rfl : ad129 = ad133 := (by injection e133)
                      replace p133 := eq_true p133
                      replace q133 := eq_true q133
                      try go_wp2
                      go_roundg k2
                      case measure => have := HJ11.out; have := HK2.out; omega
                      case rel => exact ⟨(wrap64 (x18_2 + 1)), (by first | rfl | (simp; done) | (simp [*]; done)), H', ⟨by have := HJ11.out; have := HK2.out; omega⟩, ⟨by (with_reducible repeat (first | apply Kd.R_alloc | apply Kd.R_drewN | apply Kd.R_drew)); exact HO_5.out⟩, ⟨by (with_reducible repeat (first | apply Kd.R_alloc | apply Kd.R_drewN | apply Kd.R_drew)); exact HO_6.out⟩, ⟨by (with_reducible repeat (first | apply Kd.R_alloc | apply Kd.R_drewN | apply Kd.R_drew)); exact HO_14.out⟩, ⟨by (with_reducible repeat (first | refine blk_drewN ?_ _ | refine blk_drew ?_ | refine blk_alloc ?_ _)); exact BK108.out⟩, ⟨by repeat (first | (with_reducible first | exact HB.out | apply below_alloc | apply pw_below_drewN | apply below_drew1 | refine below_set ?_ GE108.out) | exact HB.out)⟩⟩
                    · rw [if_neg c49] at H
                      have c49b0 : (t131.toList == ((rd_T27 t105 x18_2).f2).toList) = false := beq_eq_false_iff_ne.mpr c49
                      have c49b1 : (t131.toList != ((rd_T27 t105 x18_2).f2).toList) = true := bne_iff_ne.mpr c49
                      obtain rfl := Option.some.inj H
                      try go_wp2
                      have n0_ := Aside0.mk (Kd.R_drew HO_5.out)
                      have n1_ := Aside0.mk (Kd.R_drew HO_6.out)
                      have n2_ := Aside0.mk (Kd.R_drew HO_14.out)
                      have n3_ := Aside0.mk (blk_drew BK108.out)
                      have n4_ := Aside0.mk (below_drew1 HB.out)
                      clear HO_5
                      clear HO_6
                      clear HO_14
                      clear BK108
                      clear HB
                      have HO_5 := n0_
                      have HO_6 := n1_
                      have HO_14 := n2_
                      have BK108 := n3_
                      have HB := n4_
                      clear n0_ n1_ n2_ n3_ n4_
                      have p129 : 0 ≤ (x18_2 : Int) := of_decide_eq_true (by first | (with_reducible assumption) | assumption)
                      have q129 : x18_2 < (t105.length : Int) := of_decide_eq_true (by first | (with_reducible assumption) | assumption)
                      obtain ⟨ad129, e129, hx129_0, hx129_1, hx129_2⟩ := at_T27 (Kd.R_reads' HO_6.out).2.2 x18_2 p129 q129
                      cases e129
                      replace p129 := eq_true p129
                      replace q129 := eq_true q129
                      have p130 : 0 ≤ (x18_2 : Int) := of_decide_eq_true (by first | (with_reducible assumption) | assumption)
                      have q130 : x18_2 < (t105.length : Int) := of_decide_eq_true (by first | (with_reducible assumption) | assumption)
                      obtain ⟨ad130, e130, hx130_0, hx130_1, hx130_2⟩ := at_T27 (Kd.R_reads' HO_6.out).2.2 x18_2 p130 q130
                      obtain rfl : ad129 = ad130 := (by injection e130)
                      replace p130 := eq_true p130
                      replace q130 := eq_true q130
                      obtain ⟨Ao54, co54, eo54⟩ := Kd.R_slice HO_14.out
                      (first | subst eo54 | (injection eo54 with f1_ f2_ f3_; have f4_ := f1_.symm; have f5_ := f3_.symm; clear f1_ f2_ f3_; subst f4_; subst f5_))
                      refine start_ (n := 17) (S := fun w' => w'.cell? (ad129.add ((x18_2).toNat * 3)) = some (.string ((rd_T27 t105 x18_2).f0)) ∧ w'.cell? ⟨(ad129.add ((x18_2).toNat * 3)).block, (ad129.add ((x18_2).toNat * 3)).off + 1, none⟩ = some (.string ((rd_T27 t105 x18_2).f1)) ∧ w'.cell? ⟨(ad129.add ((x18_2).toNat * 3)).block, (ad129.add ((x18_2).toNat * 3)).off + 2, none⟩ = some (.string ((rd_T27 t105 x18_2).f2)) ∧ w'.cell? (ad129.add ((x18_2).toNat * 3)) = some (.string ((rd_T27 t105 x18_2).f0)) ∧ w'.cell? ⟨(ad129.add ((x18_2).toNat * 3)).block, (ad129.add ((x18_2).toNat * 3)).off + 1, none⟩ = some (.string ((rd_T27 t105 x18_2).f1)) ∧ w'.cell? ⟨(ad129.add ((x18_2).toNat * 3)).block, (ad129.add ((x18_2).toNat * 3)).off + 2, none⟩ = some (.string ((rd_T27 t105 x18_2).f2))) (ds := []) #[false, false, false, false, false, false, false, false, false, false, false, false, false, false, false, false, false] (by kernel_rfl) rfl rfl ⟨hx129_0, hx129_1, hx129_2, hx130_0, hx130_1, hx130_2⟩ (fun hHeld => ?_); refine with_tabW laws_FnBlocks.tab16 laws_FnBlocks.bits16 (fun HT_ HW_ => ?_)
                      generalize wr.drew = w53 at HO_5 HO_6 HO_14 BK108 HB hx129_0 hx129_1 hx129_2 hx130_0 hx130_1 hx130_2 hHeld ⊢
                      refine pure_ (i := 0) (N := some 101) (v := ?_) (a' := ?_) #[true, false, false, false, false, false, false, false, false, false, false, false, false, false, false, false, false] rfl rfl (any_of HT_.out (by kernel_rfl)) (fun _ _ _ h => h) (Or.inl ⟨by rfl, ?_⟩) ?_ ?_
                      rotate_left
                      · intro w'
                        go_simp
                        with_reducible rfl
                      rotate_left
                      · simp only [Act.put, List.setIfInBounds_toArray, List.set_cons_zero, List.set_cons_succ, i64_w, i32_w]
                        rfl
                      refine pure_ (i := 1) (N := some 102) (v := ?_) (a' := ?_) #[true, true, false, false, false, false, false, false, false, false, false, false, false, false, false, false, false] rfl rfl (any_of HT_.out (by kernel_rfl)) (fun _ _ _ h => h) (Or.inl ⟨by rfl, ?_⟩) ?_ ?_
                      rotate_left
                      · intro w'
                        go_simp
                        with_reducible rfl
                      rotate_left
                      · simp only [Act.put, List.setIfInBounds_toArray, List.set_cons_zero, List.set_cons_succ, i64_w, i32_w]
                        rfl
                      refine pure_ (i := 2) (N := some 103) (v := ?_) (a' := ?_) #[true, true, true, false, false, false, false, false, false, false, false, false, false, false, false, false, false] rfl rfl (any_of HT_.out (by kernel_rfl)) (fun _ _ _ h => h) (Or.inl ⟨by rfl, ?_⟩) ?_ ?_
                      rotate_left
                      · intro w'
                        go_simp
                        with_reducible rfl
                      rotate_left
                      · simp only [Act.put, List.setIfInBounds_toArray, List.set_cons_zero, List.set_cons_succ, i64_w, i32_w]
                        rfl
                      refine pure_ (i := 3) (N := some 104) (v := ?_) (a' := ?_) #[true, true, true, true, false, false, false, false, false, false, false, false, false, false, false, false, false] rfl rfl (any_of HT_.out (by kernel_rfl)) (fun _ _ _ h => h) (Or.inl ⟨by rfl, ?_⟩) ?_ ?_
                      rotate_left
                      · intro w'
                        go_simp
                        with_reducible rfl
                      rotate_left
                      · simp only [Act.put, List.setIfInBounds_toArray, List.set_cons_zero, List.set_cons_succ, i64_w, i32_w]
                        rfl
                      refine pure_ (i := 4) (N := some 105) (v := ?_) (a' := ?_) #[true, true, true, true, true, false, false, false, false, false, false, false, false, false, false, false, false] rfl rfl (any_of HT_.out (by kernel_rfl)) (fun _ _ _ h => h) (Or.inl ⟨by rfl, ?_⟩) ?_ ?_
                      rotate_left
                      · intro w'
                        go_simp
                        with_reducible rfl
                      rotate_left
                      · simp only [Act.put, List.setIfInBounds_toArray, List.set_cons_zero, List.set_cons_succ, i64_w, i32_w]
                        rfl
                      refine pure_ (i := 6) (N := some 107) (v := ?_) (a' := ?_) #[true, true, true, true, true, false, true, false, false, false, false, false, false, false, false, false, false] rfl rfl (any_of HT_.out (by kernel_rfl)) (fun _ _ _ h => h) (Or.inl ⟨by rfl, ?_⟩) ?_ ?_
                      rotate_left
                      · intro w'
                        go_simp
                        with_reducible rfl
                      rotate_left
                      · simp only [Act.put, List.setIfInBounds_toArray, List.set_cons_zero, List.set_cons_succ, i64_w, i32_w]
                        rfl
                      refine pure_ (i := 7) (N := some 108) (v := ?_) (a' := ?_) #[true, true, true, true, true, false, true, true, false, false, false, false, false, false, false, false, false] rfl rfl (any_of HT_.out (by kernel_rfl)) (fun _ _ _ h => h) (Or.inl ⟨by rfl, ?_⟩) ?_ ?_
                      rotate_left
                      · intro w'
                        go_simp
                        with_reducible rfl
                      rotate_left
                      · simp only [Act.put, List.setIfInBounds_toArray, List.set_cons_zero, List.set_cons_succ, i64_w, i32_w]
                        rfl
                      refine pure_ (i := 8) (N := some 109) (v := ?_) (a' := ?_) #[true, true, true, true, true, false, true, true, true, false, false, false, false, false, false, false, false] rfl rfl (any_of HT_.out (by kernel_rfl)) (fun _ _ _ h => h) (Or.inl ⟨by rfl, ?_⟩) ?_ ?_
                      rotate_left
                      · intro w'
                        go_simp
                        with_reducible rfl
                      rotate_left
                      · simp only [Act.put, List.setIfInBounds_toArray, List.set_cons_zero, List.set_cons_succ, i64_w, i32_w]
                        rfl
                      refine pure_ (i := 9) (N := some 110) (v := ?_) (a' := ?_) #[true, true, true, true, true, false, true, true, true, true, false, false, false, false, false, false, false] rfl rfl (any_of HT_.out (by kernel_rfl)) (fun _ _ _ h => h) (Or.inl ⟨by rfl, ?_⟩) ?_ ?_
                      rotate_left
                      · intro w'
                        go_simp
                        with_reducible rfl
                      rotate_left
                      · simp only [Act.put, List.setIfInBounds_toArray, List.set_cons_zero, List.set_cons_succ, i64_w, i32_w]
                        rfl
                      refine take_ (i := 5) (N := some 106) (v := ?_) (a' := ?_) #[true, true, true, true, true, true, true, true, true, true, false, false, false, false, false, false, false] rfl rfl (take_ofW HT_.out HW_.out (by kernel_rfl)) (fun _ _ _ h => h) (Or.inl ⟨by rfl, ?_⟩) hHeld ?_ ?_
                      rotate_left
                      · rintro w' ⟨s0, s1, s2, s3, s4, s5⟩
                        go_simp
                        with_reducible rfl
                      rotate_left
                      · simp only [Act.put, List.setIfInBounds_toArray, List.set_cons_zero, List.set_cons_succ, i64_w, i32_w]
                        rfl
                      refine take_ (i := 10) (N := some 111) (v := ?_) (a' := ?_) #[true, true, true, true, true, true, true, true, true, true, true, false, false, false, false, false, false] rfl rfl (take_ofW HT_.out HW_.out (by kernel_rfl)) (fun _ _ _ h => h) (Or.inl ⟨by rfl, ?_⟩) hHeld ?_ ?_
                      rotate_left
                      · rintro w' ⟨s0, s1, s2, s3, s4, s5⟩
                        go_simp
                        with_reducible rfl
                      rotate_left
                      · simp only [Act.put, List.setIfInBounds_toArray, List.set_cons_zero, List.set_cons_succ, i64_w, i32_w]
                        rfl
                      refine one_ (i := 11) (N := some 112) #[true, true, true, true, true, true, true, true, true, true, true, true, false, false, false, false, false] rfl rfl (one_of HT_.out (by kernel_rfl)) (by decide) (fun K hK => ?_)
                      refine goes_ Try.func9 (by kernel_rfl) rfl #[.slice Ao54 t119.length co54, .string ((rd_T27 t105 x18_2).f0), .string ((rd_T27 t105 x18_2).f1)] (by rfl) rfl rfl (by (try simp only [List.map_toArray, List.map_cons, List.map_nil]); first | done | rfl | (simp only [List.length_drop, List.length_take]; rfl)) ?_
                      with_reducible refine (impl_BlockNamed.calls k2 _ _ t119 ((rd_T27 t105 x18_2).f0) ((rd_T27 t105 x18_2).f1) t131 t132 _ ?side1 ?side2 A47.out ?side3).mono ?_
                      (case side1 => repeat (first | exact (Kd.R_reads' HO_14.out).2.2 | (with_reducible refine Kd.C_alloc ?_ _) | (with_reducible refine Kd.C_drewN ?_ _) | (with_reducible refine Kd.C_drew ?_)))
                      (case side2 => exact (Kd.R_reads' HO_14.out).2.1)
                      (case side3 => exact HasV.below HV.out (by repeat (first | (with_reducible first | exact HB.out | apply below_alloc | apply pw_below_drewN | apply below_drew1 | refine below_set ?_ GE108.out) | exact HB.out)))
                      rintro e w55 ⟨rfl, hb⟩
                      have HS0_ := (hb.cell (World.block_lt_of_cell? _ _ (hHeld.1))).trans (hHeld.1)
                      have HS1_ := (hb.cell (World.block_lt_of_cell? _ _ (hHeld.2.1))).trans (hHeld.2.1)
                      have HS2_ := (hb.cell (World.block_lt_of_cell? _ _ (hHeld.2.2.1))).trans (hHeld.2.2.1)
                      have HS3_ := (hb.cell (World.block_lt_of_cell? _ _ (hHeld.2.2.2.1))).trans (hHeld.2.2.2.1)
                      have HS4_ := (hb.cell (World.block_lt_of_cell? _ _ (hHeld.2.2.2.2.1))).trans (hHeld.2.2.2.2.1)
                      have HS5_ := (hb.cell (World.block_lt_of_cell? _ _ (hHeld.2.2.2.2.2))).trans (hHeld.2.2.2.2.2)
                      refine ⟨_, rfl, ?_⟩
                      have n0_ := Aside0.mk (Kd.R_below (by (with_reducible repeat (first | apply Kd.R_alloc | apply Kd.R_drewN | apply Kd.R_drew)); exact HO_5.out) hb)
                      have n1_ := Aside0.mk (Kd.R_below (by (with_reducible repeat (first | apply Kd.R_alloc | apply Kd.R_drewN | apply Kd.R_drew)); exact HO_6.out) hb)
                      have n2_ := Aside0.mk (Kd.R_below (by (with_reducible repeat (first | apply Kd.R_alloc | apply Kd.R_drewN | apply Kd.R_drew)); exact HO_14.out) hb)
                      have n3_ := Aside0.mk (blk_below (g := gb108) (o := .cells #[.string (⟨#[110, 101, 119]⟩ : ByteArray), .string (⟨#[120]⟩ : ByteArray), .string (⟨#[116]⟩ : ByteArray)] 27 (0, 0)) (by (with_reducible repeat (first | refine blk_drewN ?_ _ | refine blk_drew ?_ | refine blk_alloc ?_ _)); exact BK108.out) hb)
                      have n4_ := Aside0.mk (below_step (by repeat (first | (with_reducible first | exact HB.out | apply below_alloc | apply pw_below_drewN | apply below_drew1 | refine below_set ?_ GE108.out) | exact HB.out)) hb)
                      clear HO_5
                      clear HO_6
                      clear HO_14
                      clear BK108
                      clear HB
                      have HO_5 := n0_
                      have HO_6 := n1_
                      have HO_14 := n2_
                      have BK108 := n3_
                      have HB := n4_
                      clear n0_ n1_ n2_ n3_ n4_
                      (try clear hb)
                      (try clear hb2)
                      (try clear hk)
                      (try clear hi)
                      refine hK.out _ _ ⟨HS0_, HS1_, HS2_, HS3_, HS4_, HS5_⟩ (fun hHeld => ?_)
                      clear hK K
                      refine norm_ (a' := ?_) ?_ ?_
                      rotate_left
                      · show Act.put _ (some 112) _ = _
                        simp only [Act.put, List.setIfInBounds_toArray, List.set_cons_zero, List.set_cons_succ, i64_w, i32_w]
                        rfl
                      refine pure_ (i := 12) (N := some 100) (v := ?_) (a' := ?_) #[true, true, true, true, true, true, true, true, true, true, true, true, true, false, false, false, false] rfl rfl (any_of HT_.out (by kernel_rfl)) (fun _ _ _ h => h) (Or.inl ⟨by rfl, ?_⟩) ?_ ?_
                      rotate_left
                      · intro w'
                        go_simp
                        with_reducible rfl
                      rotate_left
                      · simp only [Act.put, List.setIfInBounds_toArray, List.set_cons_zero, List.set_cons_succ, i64_w, i32_w]
                        rfl
                      refine pure_ (i := 13) (N := some 113) (v := ?_) (a' := ?_) #[true, true, true, true, true, true, true, true, true, true, true, true, true, true, false, false, false] rfl rfl (any_of HT_.out (by kernel_rfl)) (fun _ _ _ h => h) (Or.inl ⟨by rfl, ?_⟩) ?_ ?_
                      rotate_left
                      · intro w'
                        go_simp
                        with_reducible rfl
                      rotate_left
                      · simp only [Act.put, List.setIfInBounds_toArray, List.set_cons_zero, List.set_cons_succ, i64_w, i32_w]
                        rfl
                      refine pure_ (i := 14) (N := some 114) (v := ?_) (a' := ?_) #[true, true, true, true, true, true, true, true, true, true, true, true, true, true, true, false, false] rfl rfl (any_of HT_.out (by kernel_rfl)) (fun _ _ _ h => h) (Or.inl ⟨by rfl, ?_⟩) ?_ ?_
                      rotate_left
                      · intro w'
                        go_simp
                        with_reducible rfl
                      rotate_left
                      · simp only [Act.put, List.setIfInBounds_toArray, List.set_cons_zero, List.set_cons_succ, i64_w, i32_w]
                        rfl
                      refine pure_ (i := 15) (N := some 19) (v := ?_) (a' := ?_) #[true, true, true, true, true, true, true, true, true, true, true, true, true, true, true, true, false] rfl rfl (any_of HT_.out (by kernel_rfl)) (fun _ _ _ h => h) (Or.inl ⟨by rfl, ?_⟩) ?_ ?_
                      rotate_left
                      · intro w'
                        go_simp
                        with_reducible rfl
                      rotate_left
                      · simp only [Act.put, List.setIfInBounds_toArray, List.set_cons_zero, List.set_cons_succ, i64_w, i32_w]
                        rfl
                      refine pure_ (i := 16) (N := some 20) (v := ?_) (a' := ?_) #[true, true, true, true, true, true, true, true, true, true, true, true, true, true, true, true, true] rfl rfl (any_of HT_.out (by kernel_rfl)) (fun _ _ _ h => h) (Or.inl ⟨by rfl, ?_⟩) ?_ ?_
                      rotate_left
                      · intro w'
                        go_simp
                        with_reducible rfl
                      rotate_left
                      · simp only [Act.put, List.setIfInBounds_toArray, List.set_cons_zero, List.set_cons_succ, i64_w, i32_w]
                        rfl
                      refine done_ (done_of HT_.out (by kernel_rfl)) ?_
                      have p133 : 0 ≤ (x18_2 : Int) := of_decide_eq_true (by first | (with_reducible assumption) | assumption)
                      have q133 : x18_2 < (t105.length : Int) := of_decide_eq_true (by first | (with_reducible assumption) | assumption)
                      obtain ⟨ad133, e133, hx133_0, hx133_1, hx133_2⟩ := at_T27 (Kd.R_reads' HO_6.out).2.2 x18_2 p133 q133
                      obtain rfl : ad129 = ad133 := (by injection e133)
                      replace p133 := eq_true p133
                      replace q133 := eq_true q133
                      try go_wp2
                      go_ret
                      exact ⟨by first | rfl | (simp [errW_none, errW_some] <;> rfl) | (simp [*, errW_none, errW_some] <;> rfl), by repeat (first | (with_reducible first | exact HB.out | apply below_alloc | apply pw_below_drewN | apply below_drew1 | refine below_set ?_ GE108.out) | exact HB.out)⟩
                  · rw [if_neg c48] at H
                    have c48b0 : (t132 == 0) = false := beq_eq_false_iff_ne.mpr c48
                    have c48b1 : (t132 != 0) = true := bne_iff_ne.mpr c48
                    obtain rfl := Option.some.inj H
                    try go_wp2
                    have n0_ := Aside0.mk (Kd.R_drew HO_5.out)
                    have n1_ := Aside0.mk (Kd.R_drew HO_6.out)
                    have n2_ := Aside0.mk (Kd.R_drew HO_14.out)
                    have n3_ := Aside0.mk (blk_drew BK108.out)
                    have n4_ := Aside0.mk (below_drew1 HB.out)
                    clear HO_5
                    clear HO_6
                    clear HO_14
                    clear BK108
                    clear HB
                    have HO_5 := n0_
                    have HO_6 := n1_
                    have HO_14 := n2_
                    have BK108 := n3_
                    have HB := n4_
                    clear n0_ n1_ n2_ n3_ n4_
                    have p129 : 0 ≤ (x18_2 : Int) := of_decide_eq_true (by first | (with_reducible assumption) | assumption)
                    have q129 : x18_2 < (t105.length : Int) := of_decide_eq_true (by first | (with_reducible assumption) | assumption)
                    obtain ⟨ad129, e129, hx129_0, hx129_1, hx129_2⟩ := at_T27 (Kd.R_reads' HO_6.out).2.2 x18_2 p129 q129
                    cases e129
                    replace p129 := eq_true p129
                    replace q129 := eq_true q129
                    have p130 : 0 ≤ (x18_2 : Int) := of_decide_eq_true (by first | (with_reducible assumption) | assumption)
                    have q130 : x18_2 < (t105.length : Int) := of_decide_eq_true (by first | (with_reducible assumption) | assumption)
                    obtain ⟨ad130, e130, hx130_0, hx130_1, hx130_2⟩ := at_T27 (Kd.R_reads' HO_6.out).2.2 x18_2 p130 q130
                    obtain rfl : ad129 = ad130 := (by injection e130)
                    replace p130 := eq_true p130
                    replace q130 := eq_true q130
                    obtain ⟨Ao57, co57, eo57⟩ := Kd.R_slice HO_14.out
                    (first | subst eo57 | (injection eo57 with f1_ f2_ f3_; have f4_ := f1_.symm; have f5_ := f3_.symm; clear f1_ f2_ f3_; subst f4_; subst f5_))
                    refine start_ (n := 17) (S := fun w' => w'.cell? (ad129.add ((x18_2).toNat * 3)) = some (.string ((rd_T27 t105 x18_2).f0)) ∧ w'.cell? ⟨(ad129.add ((x18_2).toNat * 3)).block, (ad129.add ((x18_2).toNat * 3)).off + 1, none⟩ = some (.string ((rd_T27 t105 x18_2).f1)) ∧ w'.cell? ⟨(ad129.add ((x18_2).toNat * 3)).block, (ad129.add ((x18_2).toNat * 3)).off + 2, none⟩ = some (.string ((rd_T27 t105 x18_2).f2)) ∧ w'.cell? (ad129.add ((x18_2).toNat * 3)) = some (.string ((rd_T27 t105 x18_2).f0)) ∧ w'.cell? ⟨(ad129.add ((x18_2).toNat * 3)).block, (ad129.add ((x18_2).toNat * 3)).off + 1, none⟩ = some (.string ((rd_T27 t105 x18_2).f1)) ∧ w'.cell? ⟨(ad129.add ((x18_2).toNat * 3)).block, (ad129.add ((x18_2).toNat * 3)).off + 2, none⟩ = some (.string ((rd_T27 t105 x18_2).f2))) (ds := []) #[false, false, false, false, false, false, false, false, false, false, false, false, false, false, false, false, false] (by kernel_rfl) rfl rfl ⟨hx129_0, hx129_1, hx129_2, hx130_0, hx130_1, hx130_2⟩ (fun hHeld => ?_); refine with_tabW laws_FnBlocks.tab16 laws_FnBlocks.bits16 (fun HT_ HW_ => ?_)
                    generalize wr.drew = w56 at HO_5 HO_6 HO_14 BK108 HB hx129_0 hx129_1 hx129_2 hx130_0 hx130_1 hx130_2 hHeld ⊢
                    refine pure_ (i := 0) (N := some 101) (v := ?_) (a' := ?_) #[true, false, false, false, false, false, false, false, false, false, false, false, false, false, false, false, false] rfl rfl (any_of HT_.out (by kernel_rfl)) (fun _ _ _ h => h) (Or.inl ⟨by rfl, ?_⟩) ?_ ?_
                    rotate_left
                    · intro w'
                      go_simp
                      with_reducible rfl
                    rotate_left
                    · simp only [Act.put, List.setIfInBounds_toArray, List.set_cons_zero, List.set_cons_succ, i64_w, i32_w]
                      rfl
                    refine pure_ (i := 1) (N := some 102) (v := ?_) (a' := ?_) #[true, true, false, false, false, false, false, false, false, false, false, false, false, false, false, false, false] rfl rfl (any_of HT_.out (by kernel_rfl)) (fun _ _ _ h => h) (Or.inl ⟨by rfl, ?_⟩) ?_ ?_
                    rotate_left
                    · intro w'
                      go_simp
                      with_reducible rfl
                    rotate_left
                    · simp only [Act.put, List.setIfInBounds_toArray, List.set_cons_zero, List.set_cons_succ, i64_w, i32_w]
                      rfl
                    refine pure_ (i := 2) (N := some 103) (v := ?_) (a' := ?_) #[true, true, true, false, false, false, false, false, false, false, false, false, false, false, false, false, false] rfl rfl (any_of HT_.out (by kernel_rfl)) (fun _ _ _ h => h) (Or.inl ⟨by rfl, ?_⟩) ?_ ?_
                    rotate_left
                    · intro w'
                      go_simp
                      with_reducible rfl
                    rotate_left
                    · simp only [Act.put, List.setIfInBounds_toArray, List.set_cons_zero, List.set_cons_succ, i64_w, i32_w]
                      rfl
                    refine pure_ (i := 3) (N := some 104) (v := ?_) (a' := ?_) #[true, true, true, true, false, false, false, false, false, false, false, false, false, false, false, false, false] rfl rfl (any_of HT_.out (by kernel_rfl)) (fun _ _ _ h => h) (Or.inl ⟨by rfl, ?_⟩) ?_ ?_
                    rotate_left
                    · intro w'
                      go_simp
                      with_reducible rfl
                    rotate_left
                    · simp only [Act.put, List.setIfInBounds_toArray, List.set_cons_zero, List.set_cons_succ, i64_w, i32_w]
                      rfl
                    refine pure_ (i := 4) (N := some 105) (v := ?_) (a' := ?_) #[true, true, true, true, true, false, false, false, false, false, false, false, false, false, false, false, false] rfl rfl (any_of HT_.out (by kernel_rfl)) (fun _ _ _ h => h) (Or.inl ⟨by rfl, ?_⟩) ?_ ?_
                    rotate_left
                    · intro w'
                      go_simp
                      with_reducible rfl
                    rotate_left
                    · simp only [Act.put, List.setIfInBounds_toArray, List.set_cons_zero, List.set_cons_succ, i64_w, i32_w]
                      rfl
                    refine pure_ (i := 6) (N := some 107) (v := ?_) (a' := ?_) #[true, true, true, true, true, false, true, false, false, false, false, false, false, false, false, false, false] rfl rfl (any_of HT_.out (by kernel_rfl)) (fun _ _ _ h => h) (Or.inl ⟨by rfl, ?_⟩) ?_ ?_
                    rotate_left
                    · intro w'
                      go_simp
                      with_reducible rfl
                    rotate_left
                    · simp only [Act.put, List.setIfInBounds_toArray, List.set_cons_zero, List.set_cons_succ, i64_w, i32_w]
                      rfl
                    refine pure_ (i := 7) (N := some 108) (v := ?_) (a' := ?_) #[true, true, true, true, true, false, true, true, false, false, false, false, false, false, false, false, false] rfl rfl (any_of HT_.out (by kernel_rfl)) (fun _ _ _ h => h) (Or.inl ⟨by rfl, ?_⟩) ?_ ?_
                    rotate_left
                    · intro w'
                      go_simp
                      with_reducible rfl
                    rotate_left
                    · simp only [Act.put, List.setIfInBounds_toArray, List.set_cons_zero, List.set_cons_succ, i64_w, i32_w]
                      rfl
                    refine pure_ (i := 8) (N := some 109) (v := ?_) (a' := ?_) #[true, true, true, true, true, false, true, true, true, false, false, false, false, false, false, false, false] rfl rfl (any_of HT_.out (by kernel_rfl)) (fun _ _ _ h => h) (Or.inl ⟨by rfl, ?_⟩) ?_ ?_
                    rotate_left
                    · intro w'
                      go_simp
                      with_reducible rfl
                    rotate_left
                    · simp only [Act.put, List.setIfInBounds_toArray, List.set_cons_zero, List.set_cons_succ, i64_w, i32_w]
                      rfl
                    refine pure_ (i := 9) (N := some 110) (v := ?_) (a' := ?_) #[true, true, true, true, true, false, true, true, true, true, false, false, false, false, false, false, false] rfl rfl (any_of HT_.out (by kernel_rfl)) (fun _ _ _ h => h) (Or.inl ⟨by rfl, ?_⟩) ?_ ?_
                    rotate_left
                    · intro w'
                      go_simp
                      with_reducible rfl
                    rotate_left
                    · simp only [Act.put, List.setIfInBounds_toArray, List.set_cons_zero, List.set_cons_succ, i64_w, i32_w]
                      rfl
                    refine take_ (i := 5) (N := some 106) (v := ?_) (a' := ?_) #[true, true, true, true, true, true, true, true, true, true, false, false, false, false, false, false, false] rfl rfl (take_ofW HT_.out HW_.out (by kernel_rfl)) (fun _ _ _ h => h) (Or.inl ⟨by rfl, ?_⟩) hHeld ?_ ?_
                    rotate_left
                    · rintro w' ⟨s0, s1, s2, s3, s4, s5⟩
                      go_simp
                      with_reducible rfl
                    rotate_left
                    · simp only [Act.put, List.setIfInBounds_toArray, List.set_cons_zero, List.set_cons_succ, i64_w, i32_w]
                      rfl
                    refine take_ (i := 10) (N := some 111) (v := ?_) (a' := ?_) #[true, true, true, true, true, true, true, true, true, true, true, false, false, false, false, false, false] rfl rfl (take_ofW HT_.out HW_.out (by kernel_rfl)) (fun _ _ _ h => h) (Or.inl ⟨by rfl, ?_⟩) hHeld ?_ ?_
                    rotate_left
                    · rintro w' ⟨s0, s1, s2, s3, s4, s5⟩
                      go_simp
                      with_reducible rfl
                    rotate_left
                    · simp only [Act.put, List.setIfInBounds_toArray, List.set_cons_zero, List.set_cons_succ, i64_w, i32_w]
                      rfl
                    refine one_ (i := 11) (N := some 112) #[true, true, true, true, true, true, true, true, true, true, true, true, false, false, false, false, false] rfl rfl (one_of HT_.out (by kernel_rfl)) (by decide) (fun K hK => ?_)
                    refine goes_ Try.func9 (by kernel_rfl) rfl #[.slice Ao57 t119.length co57, .string ((rd_T27 t105 x18_2).f0), .string ((rd_T27 t105 x18_2).f1)] (by rfl) rfl rfl (by (try simp only [List.map_toArray, List.map_cons, List.map_nil]); first | done | rfl | (simp only [List.length_drop, List.length_take]; rfl)) ?_
                    with_reducible refine (impl_BlockNamed.calls k2 _ _ t119 ((rd_T27 t105 x18_2).f0) ((rd_T27 t105 x18_2).f1) t131 t132 _ ?side1 ?side2 A47.out ?side3).mono ?_
                    (case side1 => repeat (first | exact (Kd.R_reads' HO_14.out).2.2 | (with_reducible refine Kd.C_alloc ?_ _) | (with_reducible refine Kd.C_drewN ?_ _) | (with_reducible refine Kd.C_drew ?_)))
                    (case side2 => exact (Kd.R_reads' HO_14.out).2.1)
                    (case side3 => exact HasV.below HV.out (by repeat (first | (with_reducible first | exact HB.out | apply below_alloc | apply pw_below_drewN | apply below_drew1 | refine below_set ?_ GE108.out) | exact HB.out)))
                    rintro e w58 ⟨rfl, hb⟩
                    have HS0_ := (hb.cell (World.block_lt_of_cell? _ _ (hHeld.1))).trans (hHeld.1)
                    have HS1_ := (hb.cell (World.block_lt_of_cell? _ _ (hHeld.2.1))).trans (hHeld.2.1)
                    have HS2_ := (hb.cell (World.block_lt_of_cell? _ _ (hHeld.2.2.1))).trans (hHeld.2.2.1)
                    have HS3_ := (hb.cell (World.block_lt_of_cell? _ _ (hHeld.2.2.2.1))).trans (hHeld.2.2.2.1)
                    have HS4_ := (hb.cell (World.block_lt_of_cell? _ _ (hHeld.2.2.2.2.1))).trans (hHeld.2.2.2.2.1)
                    have HS5_ := (hb.cell (World.block_lt_of_cell? _ _ (hHeld.2.2.2.2.2))).trans (hHeld.2.2.2.2.2)
                    refine ⟨_, rfl, ?_⟩
                    have n0_ := Aside0.mk (Kd.R_below (by (with_reducible repeat (first | apply Kd.R_alloc | apply Kd.R_drewN | apply Kd.R_drew)); exact HO_5.out) hb)
                    have n1_ := Aside0.mk (Kd.R_below (by (with_reducible repeat (first | apply Kd.R_alloc | apply Kd.R_drewN | apply Kd.R_drew)); exact HO_6.out) hb)
                    have n2_ := Aside0.mk (Kd.R_below (by (with_reducible repeat (first | apply Kd.R_alloc | apply Kd.R_drewN | apply Kd.R_drew)); exact HO_14.out) hb)
                    have n3_ := Aside0.mk (blk_below (g := gb108) (o := .cells #[.string (⟨#[110, 101, 119]⟩ : ByteArray), .string (⟨#[120]⟩ : ByteArray), .string (⟨#[116]⟩ : ByteArray)] 27 (0, 0)) (by (with_reducible repeat (first | refine blk_drewN ?_ _ | refine blk_drew ?_ | refine blk_alloc ?_ _)); exact BK108.out) hb)
                    have n4_ := Aside0.mk (below_step (by repeat (first | (with_reducible first | exact HB.out | apply below_alloc | apply pw_below_drewN | apply below_drew1 | refine below_set ?_ GE108.out) | exact HB.out)) hb)
                    clear HO_5
                    clear HO_6
                    clear HO_14
                    clear BK108
                    clear HB
                    have HO_5 := n0_
                    have HO_6 := n1_
                    have HO_14 := n2_
                    have BK108 := n3_
                    have HB := n4_
                    clear n0_ n1_ n2_ n3_ n4_
                    (try clear hb)
                    (try clear hb2)
                    (try clear hk)
                    (try clear hi)
                    refine hK.out _ _ ⟨HS0_, HS1_, HS2_, HS3_, HS4_, HS5_⟩ (fun hHeld => ?_)
                    clear hK K
                    refine norm_ (a' := ?_) ?_ ?_
                    rotate_left
                    · show Act.put _ (some 112) _ = _
                      simp only [Act.put, List.setIfInBounds_toArray, List.set_cons_zero, List.set_cons_succ, i64_w, i32_w]
                      rfl
                    refine pure_ (i := 12) (N := some 100) (v := ?_) (a' := ?_) #[true, true, true, true, true, true, true, true, true, true, true, true, true, false, false, false, false] rfl rfl (any_of HT_.out (by kernel_rfl)) (fun _ _ _ h => h) (Or.inl ⟨by rfl, ?_⟩) ?_ ?_
                    rotate_left
                    · intro w'
                      go_simp
                      with_reducible rfl
                    rotate_left
                    · simp only [Act.put, List.setIfInBounds_toArray, List.set_cons_zero, List.set_cons_succ, i64_w, i32_w]
                      rfl
                    refine pure_ (i := 13) (N := some 113) (v := ?_) (a' := ?_) #[true, true, true, true, true, true, true, true, true, true, true, true, true, true, false, false, false] rfl rfl (any_of HT_.out (by kernel_rfl)) (fun _ _ _ h => h) (Or.inl ⟨by rfl, ?_⟩) ?_ ?_
                    rotate_left
                    · intro w'
                      go_simp
                      with_reducible rfl
                    rotate_left
                    · simp only [Act.put, List.setIfInBounds_toArray, List.set_cons_zero, List.set_cons_succ, i64_w, i32_w]
                      rfl
                    refine pure_ (i := 14) (N := some 114) (v := ?_) (a' := ?_) #[true, true, true, true, true, true, true, true, true, true, true, true, true, true, true, false, false] rfl rfl (any_of HT_.out (by kernel_rfl)) (fun _ _ _ h => h) (Or.inl ⟨by rfl, ?_⟩) ?_ ?_
                    rotate_left
                    · intro w'
                      go_simp
                      with_reducible rfl
                    rotate_left
                    · simp only [Act.put, List.setIfInBounds_toArray, List.set_cons_zero, List.set_cons_succ, i64_w, i32_w]
                      rfl
                    refine pure_ (i := 15) (N := some 19) (v := ?_) (a' := ?_) #[true, true, true, true, true, true, true, true, true, true, true, true, true, true, true, true, false] rfl rfl (any_of HT_.out (by kernel_rfl)) (fun _ _ _ h => h) (Or.inl ⟨by rfl, ?_⟩) ?_ ?_
                    rotate_left
                    · intro w'
                      go_simp
                      with_reducible rfl
                    rotate_left
                    · simp only [Act.put, List.setIfInBounds_toArray, List.set_cons_zero, List.set_cons_succ, i64_w, i32_w]
                      rfl
                    refine pure_ (i := 16) (N := some 20) (v := ?_) (a' := ?_) #[true, true, true, true, true, true, true, true, true, true, true, true, true, true, true, true, true] rfl rfl (any_of HT_.out (by kernel_rfl)) (fun _ _ _ h => h) (Or.inl ⟨by rfl, ?_⟩) ?_ ?_
                    rotate_left
                    · intro w'
                      go_simp
                      with_reducible rfl
                    rotate_left
                    · simp only [Act.put, List.setIfInBounds_toArray, List.set_cons_zero, List.set_cons_succ, i64_w, i32_w]
                      rfl
                    refine done_ (done_of HT_.out (by kernel_rfl)) ?_
                    try go_wp2
                    go_ret
                    exact ⟨by first | rfl | (simp [errW_none, errW_some] <;> rfl) | (simp [*, errW_none, errW_some] <;> rfl), by repeat (first | (with_reducible first | exact HB.out | apply below_alloc | apply pw_below_drewN | apply below_drew1 | refine below_set ?_ GE108.out) | exact HB.out)⟩
                · rw [if_neg c46] at H
                  exact absurd H (by simp)
              · rw [if_neg c45] at H
                have c45b0 : decide (x18_2 < (t105.length : Int)) = false := decide_eq_false c45
                clear c45
                obtain rfl := Option.some.inj H
                obtain ⟨Ao59, co59, eo59⟩ := Kd.R_slice HO_14.out
                subst eo59
                go_wp2
                go_ret
                exact ⟨by first | rfl | (simp [errW_none, errW_some] <;> rfl) | (simp [*, errW_none, errW_some] <;> rfl), by repeat (first | (with_reducible first | exact HB.out | apply below_alloc | apply pw_below_drewN | apply below_drew1 | refine below_set ?_ GE108.out) | exact HB.out)⟩
end Go.Proofs.Ytdcpccbhhoohkaa.A
end
section
namespace Go.Proofs.Ytdcpccbhhoohkaa.A
open Go.RowKit Go.Proofs.YtdcpccbhhoohkaaW.PrintWords Go.Proofs.YtdcpccbhhoohkaaW.PrintLast Go.Proofs.Ytdcpccbhhoohkaa.A
def laws_FnBlocks.Pure : Prop := ∀ (l0 : List Int) (l1 : List Int), (l0.length ≤ maxLen ∧ ∀ z ∈ l0, (Lit.int .u8 z).wf = true) → (l1.length ≤ maxLen ∧ ∀ z ∈ l1, (Lit.int .u8 z).wf = true) → ∃ k, laws_FnBlocks.f k l0 l1 = some true
end Go.Proofs.Ytdcpccbhhoohkaa.A
end
section
namespace Go.Proofs.Ytdcpccbhhoohkaa.A
open Go.RowKit Go.Proofs.YtdcpccbhhoohkaaW.PrintWords Go.Proofs.YtdcpccbhhoohkaaW.PrintLast
theorem Ev.pos {α : Type} {c : Prop} [Decidable c] {f g : Nat → Option α} {r : α} (h : c) (k : Ev f r) : Ev (fun n => if c then f n else g n) r := by
  simpa only [if_pos h] using k
theorem Ev.neg {α : Type} {c : Prop} [Decidable c] {f g : Nat → Option α} {r : α} (h : ¬ c) (k : Ev g r) : Ev (fun n => if c then f n else g n) r := by
  simpa only [if_neg h] using k
theorem Ev.succ {α : Type} {g : Nat → Option α} {r : α} (k : Ev (fun n => g (n + 1)) r) : Ev g r := Ev.step (fun _ => rfl) k
theorem Ev.to {α : Type} {g : Nat → Option α} {r s : α} (h : Ev g r) (e : r = s) : Ev g s := e ▸ h
theorem Ev.uniq {α : Type} {g : Nat → Option α} {r s : α} (h : Ev g r) (h' : Ev g s) : r = s := by
  obtain ⟨K, h⟩ := h
  obtain ⟨K', h'⟩ := h'
  have a := h (max K K') (by omega)
  have b := h' (max K K') (by omega)
  exact Option.some.inj (a.symm.trans b)
theorem Ev.const {α : Type} {o : Option α} {r : α} (h : o = some r) : Ev (fun _ => o) r := ⟨0, fun _ _ => h⟩
theorem w64 {x : Int} (h1 : -9223372036854775808 ≤ x) (h2 : x ≤ 9223372036854775807) : wrap64 x = x := by
  unfold wrap64
  omega
theorem w64_succ {i n : Nat} (h : i < n) (hn : n ≤ 9223372036854775807) : wrap64 ((i : Int) + 1) = ((i + 1 : Nat) : Int) := by
  rw [w64 (by omega) (by omega)]
  omega
theorem rdOf_at {α : Type} (d : α) (xs : List α) (i : Nat) (h : i < xs.length) : rdOf d xs (i : Int) = xs[i] := by
  simp [rdOf, List.getD_eq_getElem?_getD, List.getElem?_eq_getElem h]
theorem rd_at (xs : List Int) (i : Nat) (h : i < xs.length) : rd xs (i : Int) = xs[i] := by
  simp [rd, List.getD_eq_getElem?_getD, List.getElem?_eq_getElem h]
theorem bt_at_nat (s : ByteArray) (i : Nat) (h : i < s.size) : bt s (i : Int) = (s[i].toNat : Int) := by
  simp [bt, h]
theorem toList_eq (s : ByteArray) : s.toList = s.data.toList := Go.ByteArray.toList_eq s
theorem bytes_ext {s t : ByteArray} (h : s.toList = t.toList) : s = t := by
  rw [toList_eq, toList_eq] at h
  obtain ⟨⟨a⟩⟩ := s
  obtain ⟨⟨b⟩⟩ := t
  simp at h
  rw [h]
theorem ba_size (s : ByteArray) : s.data.toList.length = s.size := Nat.add_zero _
theorem ba_toList_len (s : ByteArray) : s.toList.length = s.size := by rw [toList_eq, ba_size]
end Go.Proofs.Ytdcpccbhhoohkaa.A
end
section
namespace Go.Proofs.Ytdcpccbhhoohkaa.A
open Go.RowKit Go.Proofs.YtdcpccbhhoohkaaW.PrintWords Go.Proofs.YtdcpccbhhoohkaaW.PrintLast
def Bytes (l : List Int) : Prop := ∀ x ∈ l, 0 ≤ x ∧ x ≤ 255
theorem u64_range (n : Int) : 0 ≤ IntKind.u64.wrap n ∧ IntKind.u64.wrap n < 18446744073709551616 := by
  rw [IntKind.wrap_u64]
  omega
theorem and255 (x : Int) (h0 : 0 ≤ x) (h1 : x < 18446744073709551616) : Go.bits .and .u64 x 255 = x % 256 := by
  have h := bits_mask .u64 64 (by decide) (fun n h0 h1 => by rw [IntKind.wrap_u64]; omega) 8 (by decide) x h0 (by simpa using h1)
  simpa using h
theorem next_ok (l : List Int) (hl : Bytes l) (at_ s : Int) (h0 : 0 ≤ at_) (h1 : at_ ≤ 1000000000000000) :
    ∃ v s' : Int, spec_l00Src_next.f l at_ s = some (v, at_ + 1, s') ∧ 0 ≤ v ∧ v ≤ 255 := by
  have hw : wrap64 (at_ + 1) = at_ + 1 := w64 (by omega) (by omega)
  have hb : ∀ y : Int, 0 ≤ wrap64 (Go.bits .and .u64 ((IntKind.u64.wrap y) / 1099511627776) 255) ∧ wrap64 (Go.bits .and .u64 ((IntKind.u64.wrap y) / 1099511627776) 255) ≤ 255 := fun y => by
    obtain ⟨a, b⟩ := u64_range y
    rw [and255 _ (by omega) (by omega), w64 (by omega) (by omega)]
    omega
  unfold spec_l00Src_next.f
  rw [hw]
  by_cases c : at_ < (l.length : Int)
  · rw [if_pos c, if_pos h0]
    obtain ⟨i, rfl⟩ := Int.eq_ofNat_of_zero_le h0
    have hi : i < l.length := by omega
    obtain ⟨b0, b1⟩ := hl l[i] (List.getElem_mem hi)
    have hv : wrap64 (rd l (i : Int)) = l[i] := by
      rw [rd_at l i hi, w64 (by omega) (by omega)]
    by_cases d : (i : Int) + 1 ≤ (l.length : Int)
    · rw [if_pos d, hv]
      exact ⟨_, _, rfl, b0, b1⟩
    · rw [if_neg d]
      exact ⟨_, _, rfl, hb _⟩
  · rw [if_neg c]
    by_cases d : at_ + 1 ≤ (l.length : Int)
    · rw [if_pos d]
      exact ⟨_, _, rfl, by omega, by omega⟩
    · rw [if_neg d]
      exact ⟨_, _, rfl, hb _⟩
theorem pick_ok (l : List Int) (hl : Bytes l) (at_ s n : Int) (h0 : 0 ≤ at_) (h1 : at_ ≤ 100000000000000) (hn : 1 ≤ n) (hn2 : n ≤ 1000000) :
    ∃ v a' s' : Int, spec_l00Src_pick.f l at_ s n = some (v, a', s') ∧ 0 ≤ v ∧ v < n ∧ at_ ≤ a' ∧ a' ≤ at_ + 2 := by
  unfold spec_l00Src_pick.f
  by_cases c : n ≤ 1
  · rw [if_pos c]
    exact ⟨_, _, _, rfl, by omega, by omega, by omega, by omega⟩
  · rw [if_neg c]
    obtain ⟨v, s1, e1, v0, v1⟩ := next_ok l hl at_ s h0 (by omega)
    rw [e1]
    simp only [Option.bind_some]
    have hn0 : ¬ n = 0 := by omega
    by_cases d : n > 200
    · rw [if_pos d]
      obtain ⟨v2, s2, e2, w0, w1⟩ := next_ok l hl (at_ + 1) s1 (by omega) (by omega)
      rw [e2]
      simp only [Option.bind_some]
      rw [if_neg hn0, w64 (x := v * 256) (by omega) (by omega), w64 (by omega) (by omega), Int.tmod_eq_emod_of_nonneg (by omega)]
      exact ⟨_, _, _, rfl, Int.emod_nonneg _ (by omega), Int.emod_lt_of_pos _ (by omega), by omega, by omega⟩
    · rw [if_neg d, if_neg hn0, Int.tmod_eq_emod_of_nonneg (by omega)]
      exact ⟨_, _, _, rfl, Int.emod_nonneg _ (by omega), Int.emod_lt_of_pos _ (by omega), by omega, by omega⟩
theorem text_ok (l : List Int) (hl : Bytes l) (at_ s : Int) (h0 : 0 ≤ at_) (h1 : at_ ≤ 100000000000000) (ts : List ByteArray) (ht : 0 < ts.length) (ht2 : ts.length ≤ 1000) :
    ∃ (t : ByteArray) (a' s' : Int), spec_l00Src_text.f l at_ s ts = some (t, a', s') ∧ t ∈ ts ∧ at_ ≤ a' ∧ a' ≤ at_ + 2 := by
  unfold spec_l00Src_text.f
  obtain ⟨v, a', s', e, v0, v1, a0, a1⟩ := pick_ok l hl at_ s (ts.length : Int) h0 h1 (by omega) (by omega)
  rw [e]
  simp only [Option.bind_some]
  rw [if_pos v0, if_pos v1]
  obtain ⟨i, rfl⟩ := Int.eq_ofNat_of_zero_le v0
  have hi : i < ts.length := by omega
  exact ⟨_, _, _, rfl, by rw [rdOf_at _ ts i hi]; exact List.getElem_mem hi, a0, a1⟩
theorem one_ok (l : List Int) (hl : Bytes l) (at_ s n : Int) (h0 : 0 ≤ at_) (h1 : at_ ≤ 100000000000000) (hn : 1 ≤ n) (hn2 : n ≤ 1000000) :
    ∃ (b : Bool) (a' s' : Int), spec_l00Src_one.f l at_ s n = some (b, a', s') ∧ at_ ≤ a' ∧ a' ≤ at_ + 2 := by
  unfold spec_l00Src_one.f
  obtain ⟨v, a', s', e, v0, v1, a0, a1⟩ := pick_ok l hl at_ s n h0 h1 hn hn2
  rw [e]
  exact ⟨_, _, _, rfl, a0, a1⟩
theorem strOfNums_size (l : List Int) : (strOfNums l).size = l.length := by simp [strOfNums, ByteArray.size]
theorem word_l0 (l : List Int) (hl : Bytes l) : ∀ (d : Nat) (acc : List Int) (at_ s : Int), d ≤ 1000 → acc.length + d ≤ 1000 → 0 ≤ at_ → at_ + d ≤ 100000000000000 →
    ∃ (t : ByteArray) (a' s' : Int), Ev (fun k => spec_l00Src_word.l0 k acc (d : Int) l at_ s) (t, a', s') ∧ t.size ≤ 1000 ∧ at_ ≤ a' ∧ a' ≤ at_ + d := by
  intro d
  induction d with
  | zero =>
    intro acc at_ s hd ha h0 h1
    refine ⟨strOfNums acc, at_, s, Ev.succ ?_, by rw [strOfNums_size]; omega, by omega, by omega⟩
    simp only [spec_l00Src_word.l0]
    exact Ev.neg (by omega) (Ev.now _)
  | succ d ih =>
    intro acc at_ s hd ha h0 h1
    obtain ⟨v, s1, e1, v0, v1⟩ := next_ok l hl at_ s h0 (by omega)
    obtain ⟨t, a', s', h, hs, b0, b1⟩ := ih (acc ++ [v % 256]) (at_ + 1) s1 (by omega) (by simp; omega) (by omega) (by omega)
    refine ⟨t, a', s', Ev.succ ?_, hs, by omega, by omega⟩
    have hw : wrap64 (((d + 1 : Nat) : Int) - 1) = (d : Int) := by
      rw [w64 (by omega) (by omega)]
      omega
    simp only [spec_l00Src_word.l0, e1, Option.bind_some, hw]
    exact Ev.pos (by omega) (Ev.pos (by omega) h)
theorem word_ok (l : List Int) (hl : Bytes l) (at_ s : Int) (h0 : 0 ≤ at_) (h1 : at_ ≤ 10000000000000) :
    ∃ (t : ByteArray) (a' s' : Int), Ev (fun k => spec_l00Src_word.f k l at_ s 9) (t, a', s') ∧ t.size ≤ 1000 ∧ at_ ≤ a' ∧ a' ≤ at_ + 20 := by
  obtain ⟨v, a1, s1, e, v0, v1, b0, b1⟩ := pick_ok l hl at_ s 9 h0 (by omega) (by omega) (by omega)
  obtain ⟨d, rfl⟩ := Int.eq_ofNat_of_zero_le v0
  obtain ⟨t, a', s', h, hs, c0, c1⟩ := word_l0 l hl d [] a1 s1 (by omega) (by simp; omega) (by omega) (by omega)
  refine ⟨t, a', s', ?_, hs, by omega, by omega⟩
  simp only [spec_l00Src_word.f, e, Option.bind_some]
  exact h
theorem dec_l1 (x : List Int) (hx : x.length ≤ 1000) : ∀ (d : Nat) (acc : List Int), d ≤ x.length → acc.length + d ≤ 1000 → ∃ t : ByteArray, Ev (fun k => spec_l01Dec.l1 k x acc ((d : Int) - 1)) t ∧ t.size ≤ 1000 := by
  intro d
  induction d with
  | zero =>
    intro acc hd ha
    refine ⟨strOfNums acc, Ev.succ ?_, by rw [strOfNums_size]; omega⟩
    simp only [spec_l01Dec.l1]
    exact Ev.neg (by omega) (Ev.now _)
  | succ d ih =>
    intro acc hd ha
    obtain ⟨t, h, hs⟩ := ih (acc ++ [rd x (((d + 1 : Nat) : Int) - 1)]) (by omega) (by simp; omega)
    refine ⟨t, Ev.succ ?_, hs⟩
    have hw : wrap64 (((d + 1 : Nat) : Int) - 1 - 1) = (d : Int) - 1 := by
      rw [w64 (by omega) (by omega)]
      omega
    simp only [spec_l01Dec.l1, hw]
    exact Ev.pos (by omega) (Ev.pos (by omega) (Ev.pos (by omega) (Ev.pos (by omega) h)))
theorem dec_j1 (x : List Int) (hx : x.length ≤ 1000) : ∃ t : ByteArray, Ev (fun k => spec_l01Dec.j1 k x) t ∧ t.size ≤ 1000 := by
  obtain ⟨t, h, hs⟩ := dec_l1 x hx x.length [] (Nat.le_refl _) (by simpa using hx)
  refine ⟨t, Ev.succ ?_, hs⟩
  simp only [spec_l01Dec.j1]
  rw [w64 (by omega) (by omega)]
  exact h
theorem dec_l0 (n : Int) : ∀ (d : Nat) (m : Int) (acc : List Int), 0 ≤ m → m < 10 ^ d → m ≤ 1000000000000 → acc.length + d ≤ 900 → ∃ t : ByteArray, Ev (fun k => spec_l01Dec.l0 k n acc m) t ∧ t.size ≤ 1000 := by
  intro d
  induction d with
  | zero =>
    intro m acc h0 h1 h2 ha
    have e : m = 0 := by
      simp at h1
      omega
    subst e
    by_cases c : n < 0
    · obtain ⟨t, h, hs⟩ := dec_j1 (acc ++ [45]) (by simp; omega)
      refine ⟨t, Ev.succ ?_, hs⟩
      simp only [spec_l01Dec.l0]
      exact Ev.pos trivial (Ev.pos c (Ev.pos (by omega) h))
    · obtain ⟨t, h, hs⟩ := dec_j1 acc (by omega)
      refine ⟨t, Ev.succ ?_, hs⟩
      simp only [spec_l01Dec.l0]
      exact Ev.pos trivial (Ev.neg c h)
  | succ d ih =>
    intro m acc h0 h1 h2 ha
    by_cases e : m = 0
    · subst e
      exact ih 0 acc (by omega) (Int.pow_pos (by omega)) (by omega) (by omega)
    · have hq : Int.tdiv m 10 = m / 10 := Int.tdiv_eq_ediv_of_nonneg h0
      have hr : Int.tmod m 10 = m % 10 := Int.tmod_eq_emod_of_nonneg h0
      have h10 : m / 10 < 10 ^ d := by
        rw [Int.pow_succ] at h1
        omega
      obtain ⟨t, h, hs⟩ := ih (m / 10) (acc ++ [(wrap64 (48 + m % 10)) % 256]) (by omega) h10 (by omega) (by simp; omega)
      refine ⟨t, Ev.succ ?_, hs⟩
      simp only [spec_l01Dec.l0, hq, hr]
      rw [w64 (x := m / 10) (by omega) (by omega)]
      exact Ev.neg e (Ev.neg (by omega) (Ev.pos (by omega) h))
theorem dec_ok (n : Int) (h0 : 0 ≤ n) (h1 : n ≤ 1000000) : ∃ t : ByteArray, Ev (fun k => spec_l01Dec.f k n) t ∧ t.size ≤ 1000 := by
  by_cases c : n = 0
  · exact ⟨_, by simp only [spec_l01Dec.f]; exact Ev.pos c (Ev.now _), by decide⟩
  · obtain ⟨t, h, hs⟩ := dec_l0 n 13 n [] h0 (by omega) (by omega) (by simp)
    exact ⟨t, by simp only [spec_l01Dec.f]; exact Ev.neg c h, hs⟩
theorem list_l0 (x : List Int) (hx : x.length ≤ 100) (hv : ∀ v ∈ x, 0 ≤ v ∧ v ≤ 1000000) : ∀ (d i : Nat) (acc : ByteArray), i + d = x.length → acc.size ≤ 1001 * i → ∃ t : ByteArray, Ev (fun k => spec_l01List.l0 k x acc i) t ∧ t.size ≤ 200000 := by
  intro d
  induction d with
  | zero =>
    intro i acc hi ha
    refine ⟨acc, Ev.succ ?_, by omega⟩
    simp only [spec_l01List.l0]
    exact Ev.neg (by omega) (Ev.now _)
  | succ d ih =>
    intro i acc hi ha
    have hlt : i < x.length := by omega
    obtain ⟨v0, v1⟩ := hv x[i] (List.getElem_mem hlt)
    obtain ⟨t, ht, hs⟩ := dec_ok x[i] v0 v1
    by_cases c : (i : Int) > 0
    · have sz : (acc ++ (⟨#[44]⟩ : ByteArray)).size = acc.size + 1 := ByteArray.size_append
      have sz2 : ((acc ++ (⟨#[44]⟩ : ByteArray)) ++ t).size = acc.size + 1 + t.size := by rw [ByteArray.size_append, sz]
      obtain ⟨u, h, hu⟩ := ih (i + 1) ((acc ++ (⟨#[44]⟩ : ByteArray)) ++ t) (by omega) (by omega)
      refine ⟨u, Ev.succ ?_, hu⟩
      simp only [spec_l01List.l0, rd_at x i hlt, w64_succ hlt (by omega : x.length ≤ _)]
      have c3 : (acc ++ (⟨#[44]⟩ : ByteArray)).size + t.size ≤ 9223372036854775807 := by omega
      exact Ev.pos (by omega) (Ev.pos c (Ev.pos (by omega) (Ev.pos (by omega) (Ev.bind ht (Ev.pos c3 h)))))
    · have sz2 : (acc ++ t).size = acc.size + t.size := ByteArray.size_append
      obtain ⟨u, h, hu⟩ := ih (i + 1) (acc ++ t) (by omega) (by omega)
      refine ⟨u, Ev.succ ?_, hu⟩
      simp only [spec_l01List.l0, rd_at x i hlt, w64_succ hlt (by omega : x.length ≤ _)]
      exact Ev.pos (by omega) (Ev.neg c (Ev.pos (by omega) (Ev.bind ht (Ev.pos (by omega) h))))
theorem list_ok (x : List Int) (h0 : 0 < x.length) (hx : x.length ≤ 100) (hv : ∀ v ∈ x, 0 ≤ v ∧ v ≤ 1000000) : ∃ t : ByteArray, Ev (fun k => spec_l01List.f k x) t ∧ t.size ≤ 200000 := by
  obtain ⟨t, h, hs⟩ := list_l0 x hx hv x.length 0 ⟨#[]⟩ (by omega) (by decide)
  exact ⟨t, by simp only [spec_l01List.f]; exact Ev.neg (by omega) h, hs⟩
end Go.Proofs.Ytdcpccbhhoohkaa.A
end
section
namespace Go.Proofs.Ytdcpccbhhoohkaa.A
open Go.RowKit Go.Proofs.YtdcpccbhhoohkaaW.PrintWords Go.Proofs.YtdcpccbhhoohkaaW.PrintLast
def chOk (c : UInt8) : Bool := (decide (97 ≤ c.toNat) && decide (c.toNat ≤ 122)) || (decide (48 ≤ c.toNat) && decide (c.toNat ≤ 57))
def nmFrom (s : ByteArray) (i : Nat) : Bool := (s.data.toList.drop i).all chOk
theorem nmFrom_end (s : ByteArray) : nmFrom s s.size = true := by
  unfold nmFrom
  rw [List.drop_of_length_le (by rw [ba_size]; omega)]
  rfl
theorem nmFrom_succ (s : ByteArray) (i : Nat) (h : i < s.size) : nmFrom s i = (chOk s[i] && nmFrom s (i + 1)) := by
  unfold nmFrom
  have h' : i < s.data.toList.length := by rw [ba_size]; exact h
  rw [List.drop_eq_getElem_cons h', List.all_cons]
  rfl
def isNm (s : ByteArray) : Bool := decide (1 ≤ s.size) && (decide (s.size ≤ 10) && ((decide (97 ≤ bt s 0) && decide (bt s 0 ≤ 122)) && nmFrom s 0))
theorem l01Small_eq (c : Int) : spec_l01Small.f c = some (decide (97 ≤ c) && decide (c ≤ 122)) := by
  unfold spec_l01Small.f
  by_cases h : c ≥ 97
  · rw [if_pos h, decide_eq_true (by omega : 97 ≤ c), Bool.true_and]
  · rw [if_neg h, decide_eq_false (by omega : ¬ 97 ≤ c), Bool.false_and]
theorem l01Digit_eq (c : Int) : spec_l01Digit.f c = some (decide (48 ≤ c) && decide (c ≤ 57)) := by
  unfold spec_l01Digit.f
  by_cases h : c ≥ 48
  · rw [if_pos h, decide_eq_true (by omega : 48 ≤ c), Bool.true_and]
  · rw [if_neg h, decide_eq_false (by omega : ¬ 48 ≤ c), Bool.false_and]
theorem l01Name_l0 (s : ByteArray) (hs : s.size ≤ 9223372036854775807) : ∀ (d i : Nat), i + d = s.size → Ev (fun k => spec_l01Name.l0 k s i) (nmFrom s i) := by
  intro d
  induction d with
  | zero =>
    intro i hi
    refine Ev.succ ?_
    simp only [spec_l01Name.l0]
    obtain rfl : i = s.size := by omega
    rw [nmFrom_end]
    exact Ev.neg (by omega) (Ev.now _)
  | succ d ih =>
    intro i hi
    have hlt : i < s.size := by omega
    refine Ev.succ ?_
    simp only [spec_l01Name.l0, bt_at_nat s i hlt, w64_succ hlt hs, l01Small_eq, l01Digit_eq, Option.bind_some]
    rw [nmFrom_succ _ _ hlt, chOk]
    refine Ev.pos (by omega) (Ev.pos (by omega) ?_)
    have e1 : (decide ((97 : Int) ≤ (s[i].toNat : Int)) && decide ((s[i].toNat : Int) ≤ 122)) = (decide (97 ≤ s[i].toNat) && decide (s[i].toNat ≤ 122)) := by
      rw [Bool.eq_iff_iff]
      simp
      omega
    have e2 : (decide ((48 : Int) ≤ (s[i].toNat : Int)) && decide ((s[i].toNat : Int) ≤ 57)) = (decide (48 ≤ s[i].toNat) && decide (s[i].toNat ≤ 57)) := by
      rw [Bool.eq_iff_iff]
      simp
      omega
    rw [e1, e2]
    cases h1 : (decide (97 ≤ s[i].toNat) && decide (s[i].toNat ≤ 122)) with
    | true => exact Ev.pos rfl (Ev.to (ih (i + 1) (by omega)) (by simp))
    | false =>
      cases h2 : (decide (48 ≤ s[i].toNat) && decide (s[i].toNat ≤ 57)) with
      | true => exact Ev.neg (by decide) (Ev.pos rfl (Ev.to (ih (i + 1) (by omega)) (by simp)))
      | false => exact Ev.neg (by decide) (Ev.neg (by decide) (Ev.to (Ev.now _) (by simp)))
theorem nil_of_size {s : ByteArray} (h : s.toList = ([] : List UInt8)) : s.size = 0 := by
  rw [← ba_toList_len, h]
  rfl
theorem l01Name_ev (s : ByteArray) (hs : s.size ≤ 9223372036854775807) : Ev (fun k => spec_l01Name.f k s) (isNm s) := by
  simp only [spec_l01Name.f, l01Small_eq, Option.bind_some, isNm]
  by_cases h0 : s.toList = ([] : List UInt8)
  · have hz := nil_of_size h0
    refine Ev.pos h0 (Ev.succ ?_)
    simp only [spec_l01Name.j0]
    exact Ev.pos trivial (Ev.to (Ev.now _) (by rw [hz]; rfl))
  · refine Ev.neg h0 ?_
    have hne : s.size ≠ 0 := fun h => h0 (by rw [← List.length_eq_zero_iff, ba_toList_len]; exact h)
    by_cases h1 : (s.size : Int) > 10
    · refine Ev.pos h1 (Ev.succ ?_)
      simp only [spec_l01Name.j0]
      exact Ev.pos trivial (Ev.to (Ev.now _) (by rw [decide_eq_false (by omega : ¬ s.size ≤ 10)]; simp))
    · refine Ev.neg h1 (Ev.pos (by omega) (Ev.succ ?_))
      simp only [spec_l01Name.j0]
      rw [decide_eq_true (by omega : 1 ≤ s.size), decide_eq_true (by omega : s.size ≤ 10), Bool.true_and, Bool.true_and]
      cases h2 : (decide ((97 : Int) ≤ bt s 0) && decide (bt s 0 ≤ 122)) with
      | true => exact Ev.neg (by decide) (Ev.to (l01Name_l0 s hs s.size 0 (by omega)) (by simp))
      | false => exact Ev.pos rfl (Ev.to (Ev.now _) (by simp))
theorem onlyNameBytes_l0 (s : ByteArray) (hs : s.size ≤ 9223372036854775807) : ∀ (d i : Nat), i + d = s.size → Ev (fun k => impl_onlyNameBytes.l0 k s (s.size : Int) i) (nmFrom s i) := by
  intro d
  induction d with
  | zero =>
    intro i hi
    refine Ev.succ ?_
    simp only [impl_onlyNameBytes.l0]
    obtain rfl : i = s.size := by omega
    rw [nmFrom_end]
    exact Ev.neg (by omega) (Ev.now _)
  | succ d ih =>
    intro i hi
    have hlt : i < s.size := by omega
    refine Ev.succ ?_
    simp only [impl_onlyNameBytes.l0, bt_at_nat s i hlt, w64_succ hlt hs]
    rw [nmFrom_succ _ _ hlt]
    refine Ev.pos (by omega) (Ev.pos (by omega) (Ev.pos (by omega) ?_))
    have yes : chOk s[i] = true → (chOk s[i] && nmFrom s (i + 1)) = nmFrom s (i + 1) := fun h => by rw [h, Bool.true_and]
    have no : chOk s[i] = false → false = (chOk s[i] && nmFrom s (i + 1)) := fun h => by rw [h, Bool.false_and]
    have hc : chOk s[i] = true ↔ (97 ≤ s[i].toNat ∧ s[i].toNat ≤ 122) ∨ (48 ≤ s[i].toNat ∧ s[i].toNat ≤ 57) := by simp [chOk]
    have hn : chOk s[i] = false ↔ ¬ ((97 ≤ s[i].toNat ∧ s[i].toNat ≤ 122) ∨ (48 ≤ s[i].toNat ∧ s[i].toNat ≤ 57)) := by rw [← hc, Bool.not_eq_true]
    have go := ih (i + 1) (by omega)
    have digit : ¬ (97 ≤ s[i].toNat ∧ s[i].toNat ≤ 122) → Ev (fun k => if (s[i].toNat : Int) < 48 then some false else if (s[i].toNat : Int) > 57 then some false else impl_onlyNameBytes.l0 k s (s.size : Int) ((i + 1 : Nat) : Int)) (chOk s[i] && nmFrom s (i + 1)) := by
      intro hs
      by_cases h3 : (s[i].toNat : Int) < 48
      · exact Ev.pos h3 (Ev.to (Ev.now _) (no (hn.2 (by omega))))
      · by_cases h4 : (s[i].toNat : Int) > 57
        · exact Ev.neg h3 (Ev.pos h4 (Ev.to (Ev.now _) (no (hn.2 (by omega)))))
        · exact Ev.neg h3 (Ev.neg h4 (Ev.to go (yes (hc.2 (by omega))).symm))
    by_cases h1 : (s[i].toNat : Int) < 97
    · exact Ev.pos h1 (digit (by omega))
    · by_cases h2 : (s[i].toNat : Int) > 122
      · exact Ev.neg h1 (Ev.pos h2 (digit (by omega)))
      · exact Ev.neg h1 (Ev.neg h2 (Ev.to go (yes (hc.2 (by omega))).symm))
theorem IsName_ev (s : ByteArray) (hs : s.size ≤ 9223372036854775807) : Ev (fun k => impl_IsName.f k s) (isNm s) := by
  simp only [impl_IsName.f, isNm]
  by_cases h0 : (s.size : Int) < 1
  · exact Ev.pos h0 (Ev.to (Ev.now _) (by rw [decide_eq_false (by omega : ¬ 1 ≤ s.size)]; rfl))
  · refine Ev.neg h0 ?_
    rw [decide_eq_true (by omega : 1 ≤ s.size), Bool.true_and]
    by_cases h1 : (s.size : Int) > 10
    · exact Ev.pos h1 (Ev.to (Ev.now _) (by rw [decide_eq_false (by omega : ¬ s.size ≤ 10)]; rfl))
    · refine Ev.neg h1 (Ev.pos (by omega) ?_)
      rw [decide_eq_true (by omega : s.size ≤ 10), Bool.true_and]
      by_cases h2 : bt s 0 < 97
      · exact Ev.pos h2 (Ev.to (Ev.now _) (by rw [decide_eq_false (by omega : ¬ 97 ≤ bt s 0)]; rfl))
      · by_cases h3 : bt s 0 > 122
        · exact Ev.neg h2 (Ev.pos h3 (Ev.to (Ev.now _) (by rw [decide_eq_false (by omega : ¬ bt s 0 ≤ 122)]; simp)))
        · refine Ev.neg h2 (Ev.neg h3 ?_)
          rw [decide_eq_true (by omega : 97 ≤ bt s 0), decide_eq_true (by omega : bt s 0 ≤ 122)]
          simp only [impl_onlyNameBytes.f]
          exact Ev.bind (onlyNameBytes_l0 s hs s.size 0 (by omega)) (Ev.to (Ev.now _) (by simp))
end Go.Proofs.Ytdcpccbhhoohkaa.A
end
section
namespace Go.Proofs.Ytdcpccbhhoohkaa.A
open Go.RowKit Go.Proofs.YtdcpccbhhoohkaaW.PrintWords Go.Proofs.YtdcpccbhhoohkaaW.PrintLast
abbrev Blk := S27
def blkOk (b : Blk) : Bool := isNm b.f0 && (isNm b.f1 && (decide (b.f2.size ≤ 400) && !b.f2.data.toList.contains 10))
def blkLt (a b : Blk) : Bool := Op.bytesLess a.f0.toList b.f0.toList || (a.f0.toList == b.f0.toList && Op.bytesLess a.f1.toList b.f1.toList)
theorem rdB_at (l : List Blk) (i : Nat) (h : i < l.length) : rd_T27 l (i : Int) = l[i] := by
  simp [rd_T27, List.getD_eq_getElem?_getD, List.getElem?_eq_getElem h]
def BFit (b : Blk) : Prop := b.f0.size ≤ 9223372036854775807 ∧ b.f1.size ≤ 9223372036854775807 ∧ b.f2.size ≤ 9223372036854775807
def noNl (s : ByteArray) (i : Nat) : Bool := !(s.data.toList.drop i).contains 10
theorem noNl_succ (s : ByteArray) (i : Nat) (h : i < s.size) : noNl s i = (!(s[i] == 10) && noNl s (i + 1)) := by
  unfold noNl
  have h' : i < s.data.toList.length := by rw [ba_size]; exact h
  rw [List.drop_eq_getElem_cons h', List.contains_cons, Bool.not_or]
  congr 2
  rw [Bool.eq_iff_iff, beq_iff_eq, beq_iff_eq]
  exact eq_comm
theorem l29One_l0 (l : List Blk) (p : Nat) (hp : p < l.length) (hf : BFit l[p]) : ∀ (d i : Nat), i + d = l[p].f2.size →
    Ev (fun k => spec_l29One.l0 k i l p) (isNm l[p].f0 && (isNm l[p].f1 && (decide (l[p].f2.size ≤ 400) && noNl l[p].f2 i))) := by
  intro d
  induction d with
  | zero =>
    intro i hi
    refine Ev.succ ?_
    simp only [spec_l29One.l0, rdB_at l p hp]
    have hn : noNl l[p].f2 i = true := by
      unfold noNl
      rw [List.drop_of_length_le (by rw [ba_size]; omega)]
      rfl
    rw [hn]
    refine Ev.neg (by omega) (Ev.bind (l01Name_ev _ hf.1) ?_)
    cases h0 : isNm l[p].f0 with
    | false => exact Ev.neg (by decide) (Ev.now _)
    | true =>
      refine Ev.pos rfl (Ev.bind (l01Name_ev _ hf.2.1) ?_)
      cases h1 : isNm l[p].f1 with
      | false => exact Ev.neg (by decide) (Ev.now _)
      | true => exact Ev.pos rfl (Ev.to (Ev.now _) (by rw [Bool.eq_iff_iff]; simp; omega))
  | succ d ih =>
    intro i hi
    have hlt : i < l[p].f2.size := by omega
    refine Ev.succ ?_
    simp only [spec_l29One.l0, rdB_at l p hp, bt_at_nat _ i hlt, w64_succ hlt hf.2.2]
    rw [noNl_succ _ _ hlt]
    refine Ev.pos (by omega) (Ev.pos (by omega) ?_)
    by_cases h : (l[p].f2[i].toNat : Int) = 10
    · refine Ev.pos h (Ev.to (Ev.now _) ?_)
      have : (l[p].f2[i] == 10) = true := by
        rw [beq_iff_eq]
        exact UInt8.toNat_inj.1 (by show _ = 10; omega)
      rw [this]
      simp
    · refine Ev.neg h (Ev.to (ih (i + 1) (by omega)) ?_)
      have : (l[p].f2[i] == 10) = false := by
        rw [beq_eq_false_iff_ne]
        intro e
        rw [e] at h
        exact h rfl
      rw [this]
      simp
theorem l29One_ev (l : List Blk) (p : Nat) (hp : p < l.length) (hf : BFit l[p]) : Ev (fun k => spec_l29One.f k l p) (blkOk l[p]) := by
  simp only [spec_l29One.f]
  refine Ev.to (l29One_l0 l p hp hf l[p].f2.size 0 (by omega)) ?_
  rfl
theorem l29Before_eq (l m : List Blk) (i j : Nat) (hi : i < l.length) (hj : j < m.length) : spec_l29Before.f l i m j = some (blkLt l[i] m[j]) := by
  unfold spec_l29Before.f blkLt
  rw [rdB_at l i hi, rdB_at m j hj]
  cases h : Op.bytesLess l[i].f0.toList m[j].f0.toList with
  | true => rw [if_pos rfl]; rfl
  | false =>
    rw [if_neg (by decide), Bool.false_or]
    by_cases e : l[i].f0.toList = m[j].f0.toList
    · rw [if_pos e, beq_iff_eq.2 e, Bool.true_and]
    · rw [if_neg e, beq_eq_false_iff_ne.2 e, Bool.false_and]
theorem contains_nl (s : ByteArray) : Go.Lib.contains s.data.toList (⟨#[10]⟩ : ByteArray).data.toList = s.data.toList.contains 10 := by
  rw [Go.Lib.contains_iff_indexByte]
  show decide (0 ≤ Go.Lib.index s.data.toList [10]) = _
  rw [Go.Lib.index_one]
theorem ValidBlock_ev (b : Blk) (hf : BFit b) : Ev (fun k => impl_ValidBlock.f k b.f0 b.f1 b.f2) (blkOk b) := by
  simp only [impl_ValidBlock.f, blkOk]
  refine Ev.bind (IsName_ev _ hf.1) ?_
  cases h0 : isNm b.f0 with
  | false => exact Ev.neg (by decide) (Ev.now _)
  | true =>
    refine Ev.pos rfl (Ev.bind (IsName_ev _ hf.2.1) ?_)
    cases h1 : isNm b.f1 with
    | false => exact Ev.neg (by decide) (Ev.now _)
    | true =>
      refine Ev.pos rfl ?_
      by_cases h2 : (b.f2.size : Int) ≤ 400
      · refine Ev.pos h2 ?_
        refine Ev.bind (a := b.f2.data.toList.contains 10) (Ev.const ?_) (Ev.to (Ev.now _) ?_)
        · unfold strings_Contains.f
          rw [if_pos (by omega), contains_nl]
        · rw [decide_eq_true (by omega : b.f2.size ≤ 400)]
          simp
      · exact Ev.neg h2 (Ev.to (Ev.now _) (by rw [decide_eq_false (by omega : ¬ b.f2.size ≤ 400)]; simp))
def cmpS (a b : List UInt8) : Int := if Op.bytesLess a b = true then -1 else if Op.bytesLess b a = true then 1 else 0
theorem bl_irr : ∀ a : List UInt8, Op.bytesLess a a = false
  | [] => rfl
  | x :: a => by
    unfold Op.bytesLess
    rw [bl_irr a]
    simp
theorem bl_tri (a b : List UInt8) : Op.bytesLess a b = true ∨ a = b ∨ Op.bytesLess b a = true := by
  have := bytesLess_total a b
  cases h1 : Op.bytesLess a b with
  | true => exact .inl rfl
  | false =>
    rw [h1, Bool.false_or] at this
    cases h2 : (a == b) with
    | true => exact .inr (.inl (beq_iff_eq.1 h2))
    | false => rw [h2] at this; exact .inr (.inr this.symm)
theorem bl_asym {a b : List UInt8} (h : Op.bytesLess a b = true) : Op.bytesLess b a = false := by
  have := bytesLess_total a b
  rw [h] at this
  exact this.symm
theorem Compare_eq (a b : ByteArray) : cmp_Compare_string.f a b = some (cmpS a.toList b.toList) := by
  unfold cmp_Compare_string.f cmp_isNaN_string.f cmpS
  simp only [Option.bind_some, bne_self_eq_false, Bool.false_eq_true, if_false]
  split
  · rfl
  · split <;> rfl
theorem Or_ev (x y : Int) : Ev (fun k => cmp_Or_int.f k [x, y]) (if x = 0 then y else x) := by
  simp only [cmp_Or_int.f]
  refine Ev.succ ?_
  simp only [cmp_Or_int.l0]
  refine Ev.pos (by simp) (Ev.pos (by omega) (Ev.pos (by simp) ?_))
  have e0 : rd [x, y] 0 = x := rfl
  rw [e0]
  by_cases h : x = 0
  · rw [if_pos h]
    refine Ev.pos h (Ev.succ ?_)
    have e1 : wrap64 (0 + 1) = 1 := by rw [w64 (by omega) (by omega)]; rfl
    have e2 : rd [x, y] 1 = y := rfl
    simp only [cmp_Or_int.l0, e1, e2]
    refine Ev.pos (by simp) (Ev.pos (by omega) (Ev.pos (by simp) ?_))
    by_cases h' : y = 0
    · refine Ev.pos h' (Ev.succ ?_)
      have e3 : wrap64 (1 + 1) = 2 := by rw [w64 (by omega) (by omega)]; rfl
      simp only [cmp_Or_int.l0, e3]
      exact Ev.neg (by simp) (Ev.to (Ev.now _) h'.symm)
    · exact Ev.neg h' (Ev.now _)
  · rw [if_neg h]
    exact Ev.neg h (Ev.now _)
def cmpB (a b : Blk) : Int := if cmpS a.f0.toList b.f0.toList = 0 then cmpS a.f1.toList b.f1.toList else cmpS a.f0.toList b.f0.toList
theorem compareBlocks_ev (a b : Blk) : Ev (fun k => impl_compareBlocks.f k a.f0 a.f1 a.f2 b.f0 b.f1 b.f2) (cmpB a b) := by
  simp only [impl_compareBlocks.f, Compare_eq, Option.bind_some]
  exact Ev.bind (Or_ev _ _) (Ev.now _)
theorem cmpS_neg (a b : List UInt8) : cmpS a b < 0 ↔ Op.bytesLess a b = true := by
  unfold cmpS
  constructor
  · intro h
    split at h
    · assumption
    · split at h <;> omega
  · intro h
    rw [if_pos h]
    decide
theorem cmpS_zero (a b : List UInt8) : cmpS a b = 0 ↔ a = b := by
  unfold cmpS
  constructor
  · intro h
    rcases bl_tri a b with h1 | h1 | h1
    · rw [if_pos h1] at h
      omega
    · exact h1
    · rw [if_neg (by rw [bl_asym h1]; decide), if_pos h1] at h
      omega
  · rintro rfl
    rw [bl_irr]
    decide
theorem cmpB_neg (a b : Blk) : cmpB a b < 0 ↔ blkLt a b = true := by
  unfold cmpB blkLt
  by_cases h : cmpS a.f0.toList b.f0.toList = 0
  · rw [if_pos h, cmpS_neg]
    have e := (cmpS_zero _ _).1 h
    rw [e, bl_irr]
    simp
  · rw [if_neg h, cmpS_neg]
    have e : a.f0.toList ≠ b.f0.toList := fun e => h ((cmpS_zero _ _).2 e)
    rw [beq_eq_false_iff_ne.2 e]
    simp
theorem cmpB_zero (a b : Blk) : cmpB a b = 0 ↔ a.f0 = b.f0 ∧ a.f1 = b.f1 := by
  unfold cmpB
  by_cases h : cmpS a.f0.toList b.f0.toList = 0
  · rw [if_pos h, cmpS_zero]
    have e := bytes_ext ((cmpS_zero _ _).1 h)
    exact ⟨fun h => ⟨e, bytes_ext h⟩, fun h => by rw [h.2]⟩
  · rw [if_neg h]
    exact ⟨fun h' => absurd h' h, fun h' => absurd ((cmpS_zero _ _).2 (by rw [h'.1])) h⟩
def okFromB (l : List Blk) : Nat → Nat → Bool
  | 0, _ => true
  | d + 1, i => (match l[i]? with | none => true | some b => blkOk b && (match i with | 0 => true | j + 1 => match l[j]? with | none => true | some a => blkLt a b)) && okFromB l d (i + 1)
def blksOk (l : List Blk) : Bool := okFromB l l.length 0 && decide (l.length ≤ 32)
theorem l29Ok_l0 (l : List Blk) (hl : l.length ≤ 9223372036854775807) (hf : ∀ b ∈ l, BFit b) : ∀ (d i : Nat), i + d = l.length → Ev (fun k => spec_l29Ok.l0 k l i) (okFromB l d i && decide (l.length ≤ 32)) := by
  intro d
  induction d with
  | zero =>
    intro i hi
    refine Ev.succ ?_
    simp only [spec_l29Ok.l0, okFromB]
    exact Ev.neg (by omega) (Ev.to (Ev.now _) (by rw [Bool.eq_iff_iff]; simp; omega))
  | succ d ih =>
    intro i hi
    have hlt : i < l.length := by omega
    refine Ev.succ ?_
    simp only [spec_l29Ok.l0, w64_succ hlt hl, okFromB]
    rw [List.getElem?_eq_getElem hlt]
    refine Ev.pos (by omega) (Ev.pos (by omega) (Ev.bind (l29One_ev l i hlt (hf _ (List.getElem_mem hlt))) ?_))
    cases h : blkOk l[i] with
    | false => exact Ev.neg (by decide) (Ev.to (Ev.now _) (by simp [h]))
    | true =>
      refine Ev.pos rfl ?_
      cases i with
      | zero => exact Ev.neg (by omega) (Ev.to (ih 1 (by omega)) (by simp [h]))
      | succ j =>
        have hw : wrap64 (((j + 1 : Nat) : Int) - 1) = (j : Int) := by rw [w64 (by omega) (by omega)]; omega
        have hj : j < l.length := by omega
        simp only [hw, l29Before_eq l l j (j + 1) hj hlt, Option.bind_some, List.getElem?_eq_getElem hj]
        refine Ev.pos (by omega) (Ev.pos (by omega) (Ev.pos (by omega) ?_))
        cases h2 : blkLt l[j] l[j + 1] with
        | true => exact Ev.pos rfl (Ev.to (ih (j + 1 + 1) (by omega)) (by simp [h]))
        | false => exact Ev.neg (by decide) (Ev.to (Ev.now _) (by simp))
theorem l29Ok_ev (l : List Blk) (hl : l.length ≤ 9223372036854775807) (hf : ∀ b ∈ l, BFit b) : Ev (fun k => spec_l29Ok.f k l) (blksOk l) := by
  simp only [spec_l29Ok.f]
  exact l29Ok_l0 l hl hf l.length 0 (by omega)
theorem ValidBlocks_l0 (l : List Blk) (hl : l.length ≤ 9223372036854775807) (hf : ∀ b ∈ l, BFit b) : ∀ (d i : Nat), i + d = l.length → Ev (fun k => impl_ValidBlocks.l0 k l l (l.length : Int) i) (okFromB l d i) := by
  intro d
  induction d with
  | zero =>
    intro i hi
    refine Ev.succ ?_
    simp only [impl_ValidBlocks.l0, okFromB]
    exact Ev.neg (by omega) (Ev.now _)
  | succ d ih =>
    intro i hi
    have hlt : i < l.length := by omega
    refine Ev.succ ?_
    simp only [impl_ValidBlocks.l0, w64_succ hlt hl, okFromB, rdB_at l i hlt]
    rw [List.getElem?_eq_getElem hlt]
    refine Ev.pos (by omega) (Ev.pos (by omega) (Ev.pos (by omega) (Ev.bind (ValidBlock_ev l[i] (hf _ (List.getElem_mem hlt))) ?_)))
    cases h : blkOk l[i] with
    | false => exact Ev.neg (by decide) (Ev.to (Ev.now _) (by simp [h]))
    | true =>
      refine Ev.pos rfl ?_
      cases i with
      | zero => exact Ev.neg (by omega) (Ev.to (ih 1 (by omega)) (by simp [h]))
      | succ j =>
        have hw : wrap64 (((j + 1 : Nat) : Int) - 1) = (j : Int) := by rw [w64 (by omega) (by omega)]; omega
        have hj : j < l.length := by omega
        simp only [hw, rdB_at l j hj, List.getElem?_eq_getElem hj]
        refine Ev.pos (by omega) (Ev.pos (by omega) (Ev.pos (by omega) (Ev.bind (compareBlocks_ev _ _) ?_)))
        cases h2 : blkLt l[j] l[j + 1] with
        | true => exact Ev.neg (by have := (cmpB_neg _ _).2 h2; omega) (Ev.to (ih (j + 1 + 1) (by omega)) (by simp [h]))
        | false => exact Ev.pos (Int.not_lt.1 fun h => by rw [(cmpB_neg _ _).1 h] at h2; exact absurd h2 (by decide)) (Ev.to (Ev.now _) (by simp))
theorem ValidBlocks_ev (l : List Blk) (hl : l.length ≤ 9223372036854775807) (hf : ∀ b ∈ l, BFit b) : Ev (fun k => impl_ValidBlocks.f k l) (blksOk l) := by
  simp only [impl_ValidBlocks.f, blksOk]
  by_cases h : (l.length : Int) > 32
  · exact Ev.pos h (Ev.to (Ev.now _) (by rw [decide_eq_false (by omega : ¬ l.length ≤ 32)]; simp))
  · exact Ev.neg h (Ev.to (ValidBlocks_l0 l hl hf l.length 0 (by omega)) (by rw [decide_eq_true (by omega : l.length ≤ 32)]; simp))
end Go.Proofs.Ytdcpccbhhoohkaa.A
end
section
namespace Go.Proofs.Ytdcpccbhhoohkaa.A
open Go.RowKit Go.Proofs.YtdcpccbhhoohkaaW.PrintWords Go.Proofs.YtdcpccbhhoohkaaW.PrintLast
theorem bl_trans : ∀ {a b c : List UInt8}, Op.bytesLess a b = true → Op.bytesLess b c = true → Op.bytesLess a c = true
  | _, [], _, h, _ => by simp [Op.bytesLess] at h
  | _, _ :: _, [], _, h => by simp [Op.bytesLess] at h
  | [], _ :: _, _ :: _, _, _ => by simp [Op.bytesLess]
  | x :: a, y :: b, z :: c, h1, h2 => by
    simp only [Op.bytesLess, Bool.or_eq_true, Bool.and_eq_true, decide_eq_true_eq, beq_iff_eq, UInt8.lt_iff_toNat_lt] at h1 h2 ⊢
    rcases h1 with h1 | ⟨rfl, h1⟩
    · rcases h2 with h2 | ⟨rfl, h2⟩
      · exact .inl (by omega)
      · exact .inl h1
    · rcases h2 with h2 | ⟨rfl, h2⟩
      · exact .inl h2
      · exact .inr ⟨rfl, bl_trans h1 h2⟩
theorem blkLt_iff (a b : Blk) : blkLt a b = true ↔ Op.bytesLess a.f0.toList b.f0.toList = true ∨ (a.f0.toList = b.f0.toList ∧ Op.bytesLess a.f1.toList b.f1.toList = true) := by
  simp [blkLt]
theorem blkLt_trans {a b c : Blk} (h1 : blkLt a b = true) (h2 : blkLt b c = true) : blkLt a c = true := by
  rw [blkLt_iff] at *
  rcases h1 with h1 | ⟨e1, h1⟩
  · rcases h2 with h2 | ⟨e2, h2⟩
    · exact .inl (bl_trans h1 h2)
    · exact .inl (e2 ▸ h1)
  · rcases h2 with h2 | ⟨e2, h2⟩
    · exact .inl (e1 ▸ h2)
    · exact .inr ⟨e1.trans e2, bl_trans h1 h2⟩
theorem okFromB_at (l : List Blk) : ∀ (d i : Nat), i + d = l.length → okFromB l d i = true → ∀ j (h : j < l.length), i ≤ j → blkOk l[j] = true ∧ (∀ (h0 : 0 < j), blkLt (l[j - 1]'(by omega)) l[j] = true) := by
  intro d
  induction d with
  | zero => intro i hi _ j h hj; omega
  | succ d ih =>
    intro i hi ho j h hj
    simp only [okFromB, Bool.and_eq_true] at ho
    have hlt : i < l.length := by omega
    rw [List.getElem?_eq_getElem hlt] at ho
    simp only [Bool.and_eq_true] at ho
    obtain ⟨⟨h1, h2⟩, h3⟩ := ho
    by_cases e : i = j
    · subst e
      refine ⟨h1, fun h0 => ?_⟩
      cases i with
      | zero => omega
      | succ m =>
        have hm : m < l.length := by omega
        simp only [List.getElem?_eq_getElem hm] at h2
        simpa using h2
    · exact ih (i + 1) (by omega) h3 j h (by omega)
def SortedB (l : List Blk) : Prop := ∀ i j (hi : i < l.length) (hj : j < l.length), i < j → blkLt l[i] l[j] = true
theorem blksOk_sorted {l : List Blk} (h : blksOk l = true) : SortedB l ∧ l.length ≤ 32 ∧ ∀ b ∈ l, blkOk b = true := by
  unfold blksOk at h
  rw [Bool.and_eq_true] at h
  have ha := okFromB_at l l.length 0 (by omega) h.1
  refine ⟨?_, of_decide_eq_true h.2, fun b hb => ?_⟩
  · intro i j hi hj hij
    induction j with
    | zero => omega
    | succ j ih =>
      have hs := (ha (j + 1) hj (by omega)).2 (by omega)
      by_cases e : i = j
      · subst e
        exact hs
      · exact blkLt_trans (ih (by omega) (by omega)) hs
  · obtain ⟨j, hj, rfl⟩ := List.getElem_of_mem hb
    exact (ha j hj (by omega)).1
theorem mid_w (lo hi : Nat) (h : lo + hi ≤ 4611686018427387904) : wrap64 ((IntKind.u64.wrap (wrap64 ((lo : Int) + (hi : Int)))) / 2) = (((lo + hi) / 2 : Nat) : Int) := by
  have e1 : wrap64 ((lo : Int) + (hi : Int)) = ((lo + hi : Nat) : Int) := by rw [w64 (by omega) (by omega)]; omega
  have e2 : IntKind.u64.wrap ((lo + hi : Nat) : Int) = ((lo + hi : Nat) : Int) := by
    simp [IntKind.wrap, IntKind.bits, IntKind.signed]
    omega
  rw [e1, e2, w64 (by omega) (by omega)]
  omega
structure PlaceB (l : List Blk) (t : Blk) (p : Nat) : Prop where
  le : p ≤ l.length
  below : ∀ j (h : j < l.length), j < p → blkLt l[j] t = true
  above : ∀ j (h : j < l.length), p ≤ j → blkLt l[j] t = false
theorem BS_l0 (l : List Blk) (t : Blk) (hs : SortedB l) (hl : l.length ≤ 1048576) : ∀ (d lo hi : Nat), hi - lo ≤ d → lo ≤ hi → hi ≤ l.length → (∀ j (h : j < l.length), j < lo → blkLt l[j] t = true) → (∀ j (h : j < l.length), hi ≤ j → blkLt l[j] t = false) →
    ∃ p, PlaceB l t p ∧ Ev (fun k => impl_Block_29.l0 k l (l.length : Int) lo hi t.f0 t.f1 t.f2) ((p : Int), (if h : p < l.length then cmpB l[p] t == 0 else false)) := by
  intro d
  induction d with
  | zero =>
    intro lo hi hd hle hn hlo hhi
    obtain rfl : lo = hi := by omega
    refine ⟨lo, ⟨hn, hlo, hhi⟩, Ev.succ ?_⟩
    simp only [impl_Block_29.l0]
    refine Ev.neg (by omega) ?_
    by_cases h : lo < l.length
    · simp only [rdB_at l lo h, dif_pos h]
      exact Ev.pos (by omega) (Ev.pos (by omega) (Ev.pos (by omega) (Ev.bind (compareBlocks_ev _ _) (Ev.now _))))
    · simp only [dif_neg h]
      exact Ev.neg (by omega) (Ev.now _)
  | succ d ih =>
    intro lo hi hd hle hn hlo hhi
    by_cases hlt : lo < hi
    · have hm : (lo + hi) / 2 < l.length := by omega
      by_cases hc : cmpB l[(lo + hi) / 2] t < 0
      · obtain ⟨p, hp, he⟩ := ih ((lo + hi) / 2 + 1) hi (by omega) (by omega) hn (fun j h hj => by
          by_cases e : j = (lo + hi) / 2
          · subst e
            exact (cmpB_neg _ _).1 hc
          · exact blkLt_trans (hs j ((lo + hi) / 2) h hm (by omega)) ((cmpB_neg _ _).1 hc)) hhi
        refine ⟨p, hp, Ev.succ ?_⟩
        simp only [impl_Block_29.l0, mid_w lo hi (by omega), rdB_at l _ hm, w64_succ hm (by omega : l.length ≤ _)]
        exact Ev.pos (by omega) (Ev.pos (by omega) (Ev.pos (by omega) (Ev.bind (compareBlocks_ev _ _) (Ev.pos hc he))))
      · obtain ⟨p, hp, he⟩ := ih lo ((lo + hi) / 2) (by omega) (by omega) (by omega) hlo (fun j h hj => by
          cases h1 : blkLt l[j] t with
          | false => rfl
          | true =>
            by_cases e : j = (lo + hi) / 2
            · subst e
              exact absurd ((cmpB_neg _ _).2 h1) hc
            · exact absurd ((cmpB_neg _ _).2 (blkLt_trans (hs ((lo + hi) / 2) j hm h (by omega)) h1)) hc)
        refine ⟨p, hp, Ev.succ ?_⟩
        simp only [impl_Block_29.l0, mid_w lo hi (by omega), rdB_at l _ hm]
        exact Ev.pos (by omega) (Ev.pos (by omega) (Ev.pos (by omega) (Ev.bind (compareBlocks_ev _ _) (Ev.neg hc he))))
    · exact ih lo hi (by omega) hle hn hlo hhi
theorem BS_ev (l : List Blk) (t : Blk) (hs : SortedB l) (hl : l.length ≤ 1048576) :
    ∃ p, PlaceB l t p ∧ Ev (fun k => impl_Block_29.f k l t.f0 t.f1 t.f2) ((p : Int), (if h : p < l.length then cmpB l[p] t == 0 else false)) := by
  simp only [impl_Block_29.f]
  exact BS_l0 l t hs hl l.length 0 l.length (by omega) (by omega) (by omega) (fun j _ hj => absurd hj (by omega)) (fun j h hj => absurd h (by omega))
theorem find_bs (l : List Blk) (t : Blk) (hs : SortedB l) (hl : l.length ≤ 1048576) :
    ∃ p, PlaceB l t p ∧ ((∃ h : p < l.length, l[p].f0 = t.f0 ∧ l[p].f1 = t.f1 ∧ Ev (fun k => impl_Block_29.f k l t.f0 t.f1 t.f2) ((p : Int), true)) ∨
      ((∀ j (h : j < l.length), ¬ (l[j].f0 = t.f0 ∧ l[j].f1 = t.f1)) ∧ Ev (fun k => impl_Block_29.f k l t.f0 t.f1 t.f2) ((p : Int), false))) := by
  obtain ⟨p, hp, he⟩ := BS_ev l t hs hl
  refine ⟨p, hp, ?_⟩
  have uniq : ∀ j (h : j < l.length), l[j].f0 = t.f0 → l[j].f1 = t.f1 → j = p := by
    intro j h h0 h1
    have e : blkLt l[j] t = false := by
      have h2 : ∀ b : Blk, blkLt l[j] b = blkLt ⟨t.f0, t.f1, l[j].f2⟩ b := fun b => by simp [blkLt, h0, h1]
      rw [h2]
      simp [blkLt, bl_irr]
    have hpj : p ≤ j := Nat.le_of_not_lt fun hlt => by rw [hp.below j h hlt] at e; exact absurd e (by decide)
    by_cases hj : j = p
    · exact hj
    · have hpl : p < l.length := by omega
      have h3 := hs p j hpl h (by omega)
      have h4 := hp.above p hpl (Nat.le_refl _)
      have h5 : blkLt l[p] t = blkLt l[p] l[j] := by simp [blkLt, h0, h1]
      rw [h5, h3] at h4
      exact absurd h4 (by decide)
  by_cases h : p < l.length
  · by_cases hk : l[p].f0 = t.f0 ∧ l[p].f1 = t.f1
    · refine .inl ⟨h, hk.1, hk.2, Ev.to he ?_⟩
      rw [dif_pos h, beq_iff_eq.2 ((cmpB_zero _ _).2 hk)]
    · refine .inr ⟨fun j hj e => ?_, Ev.to he ?_⟩
      · obtain rfl := uniq j hj e.1 e.2
        exact hk e
      · rw [dif_pos h]
        have : (cmpB l[p] t == 0) = false := beq_eq_false_iff_ne.2 fun e => hk ((cmpB_zero _ _).1 e)
        rw [this]
  · refine .inr ⟨fun j hj e => ?_, Ev.to he ?_⟩
    · obtain rfl := uniq j hj e.1 e.2
      exact h hj
    · rw [dif_neg h]
end Go.Proofs.Ytdcpccbhhoohkaa.A
end
section
namespace Go.Proofs.Ytdcpccbhhoohkaa.A
open Go.RowKit Go.Proofs.YtdcpccbhhoohkaaW.PrintWords Go.Proofs.YtdcpccbhhoohkaaW.PrintLast
def keq (a t : Blk) : Prop := a.f0.toList = t.f0.toList ∧ a.f1.toList = t.f1.toList
theorem l29Put_done (l : List Blk) (t : Blk) (hl : l.length ≤ 1048576) : ∀ (d i : Nat) (acc : List Blk), i + d = l.length → acc.length ≤ i + 1 → (∀ j (h : j < l.length), i ≤ j → ¬ keq l[j] t) →
    Ev (fun k => spec_l29Put.l0 k l acc true i t.f0 t.f1 t.f2) (acc ++ l.drop i) := by
  intro d
  induction d with
  | zero =>
    intro i acc hi ha hk
    refine Ev.succ ?_
    simp only [spec_l29Put.l0]
    rw [List.drop_of_length_le (by omega), List.append_nil]
    exact Ev.neg (by omega) (Ev.pos trivial (Ev.now _))
  | succ d ih =>
    intro i acc hi ha hk
    have hlt : i < l.length := by omega
    have h2 := ih (i + 1) (acc ++ [l[i]]) (by omega) (by simp; omega) (fun j h hj => hk j h (by omega))
    rw [List.append_assoc, List.singleton_append, ← List.drop_eq_getElem_cons hlt] at h2
    have hkn := hk i hlt (Nat.le_refl _)
    refine Ev.succ ?_
    simp only [spec_l29Put.l0]
    refine Ev.pos (by omega) (Ev.pos trivial (Ev.succ ?_))
    simp only [spec_l29Put.j1, rdB_at l i hlt, w64_succ hlt (by omega : l.length ≤ _)]
    refine Ev.neg (by decide) (Ev.pos (by omega) (Ev.pos (by omega) ?_))
    by_cases c1 : l[i].f0.toList = t.f0.toList
    · refine Ev.pos c1 (Ev.neg (fun c2 => hkn ⟨c1, c2⟩) (Ev.pos (by omega) h2))
    · exact Ev.neg c1 (Ev.pos (by omega) h2)
theorem l29Put_walk (l : List Blk) (t : Blk) (hl : l.length ≤ 1048576) (p : Nat) (hp : PlaceB l t p) (R : List Blk) (hR : Ev (fun k => spec_l29Put.l0 k l (l.take p) false p t.f0 t.f1 t.f2) R) : ∀ (d i : Nat), i + d = p →
    Ev (fun k => spec_l29Put.l0 k l (l.take i) false i t.f0 t.f1 t.f2) R := by
  intro d
  induction d with
  | zero =>
    intro i hi
    have e : i = p := by omega
    subst e
    exact hR
  | succ d ih =>
    intro i hi
    have hpl := hp.le
    have hlt : i < l.length := by omega
    have h2 := ih (i + 1) (by omega)
    rw [List.take_succ_eq_append_getElem hlt] at h2
    have hb := hp.below i hlt (by omega)
    have hbf : spec_l29Before.f l (i : Int) [(⟨t.f0, t.f1, t.f2⟩ : Blk)] 0 = some (blkLt l[i] t) := l29Before_eq l [t] i 0 hlt (by simp)
    have hkn : ¬ keq l[i] t := fun e => by
      unfold blkLt at hb
      rw [e.1, e.2, bl_irr, bl_irr] at hb
      simp at hb
    have hal : (l.take i).length = i := by rw [List.length_take]; omega
    refine Ev.succ ?_
    simp only [spec_l29Put.l0]
    refine Ev.pos (by omega) (Ev.neg (by decide) (Ev.pos (by omega) ?_))
    rw [hbf, hb]
    simp only [Option.bind_some, Bool.not_true]
    refine Ev.succ ?_
    simp only [spec_l29Put.j1, rdB_at l i hlt, w64_succ hlt (by omega : l.length ≤ _)]
    refine Ev.neg (by decide) (Ev.pos (by omega) (Ev.pos (by omega) ?_))
    by_cases c1 : l[i].f0.toList = t.f0.toList
    · refine Ev.pos c1 (Ev.neg (fun c2 => hkn ⟨c1, c2⟩) (Ev.pos (by omega) h2))
    · exact Ev.neg c1 (Ev.pos (by omega) h2)
def putAt (l : List Blk) (t : Blk) (p q : Nat) : List Blk := l.take p ++ t :: l.drop q
theorem l29Put_same (l : List Blk) (t : Blk) (hl : l.length ≤ 1048576) (hs : SortedB l) (p : Nat) (hp : PlaceB l t p) (h : p < l.length) (h0 : l[p].f0 = t.f0) (h1 : l[p].f1 = t.f1) :
    Ev (fun k => spec_l29Put.f k l t.f0 t.f1 t.f2) (putAt l t p (p + 1)) := by
  simp only [spec_l29Put.f]
  refine l29Put_walk l t hl p hp _ ?_ p 0 (by omega)
  have hal : (l.take p).length = p := by rw [List.length_take]; omega
  have h2 := l29Put_done l t hl (l.length - (p + 1)) (p + 1) (l.take p ++ [t]) (by omega) (by simp; omega) (fun j hj hij e => by
    have h3 := hs p j h hj (by omega)
    unfold blkLt at h3
    rw [e.1, e.2, h0, h1, bl_irr, bl_irr] at h3
    simp at h3)
  rw [List.append_assoc, List.singleton_append] at h2
  have hbf : spec_l29Before.f l (p : Int) [(⟨t.f0, t.f1, t.f2⟩ : Blk)] 0 = some (blkLt l[p] t) := l29Before_eq l [t] p 0 h (by simp)
  have hb := hp.above p h (Nat.le_refl _)
  refine Ev.succ ?_
  simp only [spec_l29Put.l0]
  refine Ev.pos (by omega) (Ev.neg (by decide) (Ev.pos (by omega) ?_))
  rw [hbf, hb]
  simp only [Option.bind_some, Bool.not_false]
  refine Ev.succ ?_
  simp only [spec_l29Put.j1, rdB_at l p h, w64_succ h (by omega : l.length ≤ _), Option.bind_some]
  refine Ev.pos trivial (Ev.pos (by omega) (Ev.pos (by omega) (Ev.pos (by omega) (Ev.pos (by rw [h0]) (Ev.pos (by rw [h1]) h2)))))
theorem l29Put_new (l : List Blk) (t : Blk) (hl : l.length ≤ 1048576) (p : Nat) (hp : PlaceB l t p) (hk : ∀ j (h : j < l.length), ¬ (l[j].f0 = t.f0 ∧ l[j].f1 = t.f1)) :
    Ev (fun k => spec_l29Put.f k l t.f0 t.f1 t.f2) (putAt l t p p) := by
  have hk2 : ∀ j (h : j < l.length), ¬ keq l[j] t := fun j h e => hk j h ⟨bytes_ext e.1, bytes_ext e.2⟩
  simp only [spec_l29Put.f]
  refine l29Put_walk l t hl p hp _ ?_ p 0 (by omega)
  have hpl := hp.le
  have hal : (l.take p).length = p := by rw [List.length_take]; omega
  refine Ev.succ ?_
  simp only [spec_l29Put.l0]
  by_cases h : p < l.length
  · have h2 := Ev.to (l29Put_done l t hl (l.length - (p + 1)) (p + 1) (l.take p ++ [t] ++ [l[p]]) (by omega) (by simp; omega) (fun j hj _ => hk2 j hj)) (show _ = putAt l t p p by
      rw [putAt, List.drop_eq_getElem_cons h]
      simp)
    have hbf : spec_l29Before.f l (p : Int) [(⟨t.f0, t.f1, t.f2⟩ : Blk)] 0 = some (blkLt l[p] t) := l29Before_eq l [t] p 0 h (by simp)
    have hb := hp.above p h (Nat.le_refl _)
    have hkn := hk2 p h
    have hlen : (l.take p ++ [t]).length = p + 1 := by simp; omega
    refine Ev.pos (by omega) (Ev.neg (by decide) (Ev.pos (by omega) ?_))
    rw [hbf, hb]
    simp only [Option.bind_some, Bool.not_false]
    refine Ev.succ ?_
    simp only [spec_l29Put.j1, rdB_at l p h, w64_succ h (by omega : l.length ≤ _), Option.bind_some]
    refine Ev.pos trivial (Ev.pos (by omega) (Ev.pos (by omega) (Ev.pos (by omega) ?_)))
    by_cases c1 : l[p].f0.toList = t.f0.toList
    · exact Ev.pos c1 (Ev.neg (fun c2 => hkn ⟨c1, c2⟩) (Ev.pos (Nat.lt_of_le_of_lt (Nat.le_of_eq hlen) (by omega)) h2))
    · exact Ev.neg c1 (Ev.pos (Nat.lt_of_le_of_lt (Nat.le_of_eq hlen) (by omega)) h2)
  · have e : p = l.length := by omega
    subst e
    refine Ev.neg (by omega) (Ev.neg (by decide) (Ev.pos (by omega) (Ev.to (Ev.now _) ?_)))
    simp [putAt]
theorem cloneB_eq' (l : List Blk) (h : l.length ≤ 1048576) : impl_Block_32.f l = some l := by
  simp only [impl_Block_32.f, Option.bind_some, List.nil_append, List.length_nil, Nat.zero_add]
  rw [if_pos (by omega)]
theorem insertB_eq (l : List Blk) (t : Blk) (p : Nat) (h : p ≤ l.length) (hl : l.length ≤ 1048576) : impl_Block_87.f l (p : Int) [t] = some (putAt l t p p) := by
  unfold impl_Block_87.f putAt
  rw [if_pos ⟨by omega, by omega, by simp, hl⟩, Int.toNat_natCast, List.append_assoc, List.singleton_append]
theorem blkLt_tri {a b : Blk} (h : blkLt a b = false) (hk : ¬ (a.f0 = b.f0 ∧ a.f1 = b.f1)) : blkLt b a = true := by
  rw [blkLt_iff]
  have h' : ¬ (Op.bytesLess a.f0.toList b.f0.toList = true ∨ (a.f0.toList = b.f0.toList ∧ Op.bytesLess a.f1.toList b.f1.toList = true)) := fun e => by
    rw [← blkLt_iff, h] at e
    exact absurd e (by decide)
  rcases bl_tri a.f0.toList b.f0.toList with e | e | e
  · exact absurd (.inl e) h'
  · rcases bl_tri a.f1.toList b.f1.toList with f | f | f
    · exact absurd (.inr ⟨e, f⟩) h'
    · exact absurd ⟨bytes_ext e, bytes_ext f⟩ hk
    · exact .inr ⟨e.symm, f⟩
  · exact .inl e
theorem sorted_iff (l : List Blk) : SortedB l ↔ l.Pairwise (fun a b => blkLt a b = true) := by
  rw [List.pairwise_iff_getElem]
  exact ⟨fun h i j hi hj hij => h i j hi hj hij, fun h i j hi hj hij => h i j hi hj hij⟩
theorem putAt_sorted (l : List Blk) (t : Blk) (hs : SortedB l) (p q : Nat) (hp : PlaceB l t p) (hpq : p ≤ q) (ha : ∀ j (h : j < l.length), q ≤ j → blkLt t l[j] = true) : SortedB (putAt l t p q) := by
  have hw := (sorted_iff l).1 hs
  rw [sorted_iff]
  unfold putAt
  rw [List.pairwise_append, List.pairwise_cons]
  refine ⟨hw.sublist (List.take_sublist _ _), ⟨fun b hb => ?_, hw.sublist (List.drop_sublist _ _)⟩, fun a ha' b hb => ?_⟩
  · obtain ⟨j, hj, rfl⟩ := List.mem_iff_getElem.1 hb
    rw [List.getElem_drop]
    exact ha _ _ (by omega)
  · obtain ⟨i, hi, rfl⟩ := List.mem_iff_getElem.1 ha'
    rw [List.length_take] at hi
    rw [List.getElem_take]
    rcases List.mem_cons.1 hb with rfl | hb
    · exact hp.below i (by omega) (by omega)
    · obtain ⟨j, hj, rfl⟩ := List.mem_iff_getElem.1 hb
      rw [List.length_drop] at hj
      rw [List.getElem_drop]
      exact hs i (q + j) (by omega) (by omega) (by omega)
end Go.Proofs.Ytdcpccbhhoohkaa.A
end
section
namespace Go.Proofs.Ytdcpccbhhoohkaa.A
open Go.RowKit Go.Proofs.YtdcpccbhhoohkaaW.PrintWords Go.Proofs.YtdcpccbhhoohkaaW.PrintLast
def kinds3 : List ByteArray := [(⟨#[97, 105, 114, 119, 97, 121]⟩ : ByteArray), (⟨#[110, 111, 116, 101]⟩ : ByteArray), (⟨#[102, 97, 99, 101]⟩ : ByteArray)]
theorem drawOk_ok (l : List Int) (hl : Bytes l) (at_ s : Int) (h0 : 0 ≤ at_) (h1 : at_ ≤ 1000000000000) (nm : ByteArray) :
    ∃ (c d e f : Int) (a' s' : Int), spec_l03DrawOk.f l at_ s nm 0 1 = some (nm, 0, 1, c, d, e, f, a', s') ∧ (0 ≤ c ∧ c ≤ 10000) ∧ (0 ≤ d ∧ d ≤ 10000) ∧ (0 ≤ e ∧ e ≤ 10000) ∧ (0 ≤ f ∧ f ≤ 10000) ∧ at_ ≤ a' ∧ a' ≤ at_ + 8 := by
  unfold spec_l03DrawOk.f
  obtain ⟨v1, a1, s1, e1, p1, q1, b1, c1⟩ := pick_ok l hl at_ s 900 h0 (by omega) (by omega) (by omega)
  rw [e1]
  simp only [Option.bind_some]
  obtain ⟨v2, a2, s2, e2, p2, q2, b2, c2⟩ := pick_ok l hl a1 s1 1500 (by omega) (by omega) (by omega) (by omega)
  rw [e2]
  simp only [Option.bind_some]
  obtain ⟨v3, a3, s3, e3, p3, q3, b3, c3⟩ := pick_ok l hl a2 s2 200 (by omega) (by omega) (by omega) (by omega)
  rw [e3]
  simp only [Option.bind_some]
  obtain ⟨v4, a4, s4, e4, p4, q4, b4, c4⟩ := pick_ok l hl a3 s3 60 (by omega) (by omega) (by omega) (by omega)
  rw [e4]
  simp only [Option.bind_some]
  rw [w64 (x := 20 + v1) (by omega) (by omega), w64 (x := 300 + v2) (by omega) (by omega), w64 (x := 20 + v3) (by omega) (by omega)]
  exact ⟨_, _, _, _, _, _, rfl, by omega, by omega, by omega, by omega, by omega, by omega⟩
theorem text3_ok (nm : ByteArray) (hn : nm.size ≤ 1000) (c d e f : Int) (hc : 0 ≤ c ∧ c ≤ 10000) (hd : 0 ≤ d ∧ d ≤ 10000) (he : 0 ≤ e ∧ e ≤ 10000) (hf : 0 ≤ f ∧ f ≤ 10000) :
    ∃ t : ByteArray, Ev (fun k => spec_l03Text.f k [(⟨nm, 0, 1, c, d, e, f⟩ : S153)] 0) t ∧ t.size ≤ 1000000 := by
  obtain ⟨t, h, hs⟩ := list_ok [0, 1, c, d, e, f] (by simp) (by simp) (by
    intro v hv
    simp at hv
    omega)
  have hr : rd_T153 [(⟨nm, 0, 1, c, d, e, f⟩ : S153)] 0 = ⟨nm, 0, 1, c, d, e, f⟩ := rfl
  have sz : (nm ++ (⟨#[32]⟩ : ByteArray)).size = nm.size + 1 := ByteArray.size_append
  have sz2 : ((nm ++ (⟨#[32]⟩ : ByteArray)) ++ t).size = nm.size + 1 + t.size := by rw [ByteArray.size_append, sz]
  refine ⟨(nm ++ (⟨#[32]⟩ : ByteArray)) ++ t, ?_, by omega⟩
  simp only [spec_l03Text.f, hr]
  exact Ev.pos (by omega) (Ev.bind h (Ev.pos (by omega) (Ev.now _)))
theorem j2_ok (l : List Int) (hl : Bytes l) (at_ s : Int) (h0 : 0 ≤ at_) (h1 : at_ ≤ 1000000000000) (a b c : ByteArray) (ha : a ∈ kinds3) (hb : b.size ≤ 1000) (hc : c.size ≤ 1000000) :
    ∃ (x y z : ByteArray) (a' s' : Int), Ev (fun k => spec_l29DrawOne.j2 k l at_ s a b c) (x, y, z, a', s') ∧ x ∈ kinds3 ∧ y.size ≤ 1000 ∧ z.size ≤ 1000000 ∧ at_ ≤ a' ∧ a' ≤ at_ + 10 := by
  obtain ⟨v, a1, s1, e1, b1, c1⟩ := one_ok l hl at_ s 24 h0 (by omega) (by omega) (by omega)
  cases v with
  | true =>
    obtain ⟨v2, a2, s2, e2, p2, q2, b2, c2⟩ := pick_ok l hl a1 s1 3 (by omega) (by omega) (by omega) (by omega)
    refine ⟨a, b, strOfNums (List.replicate (wrap64 (399 + v2)).toNat 0), a2, s2, Ev.succ ?_, ha, hb, ?_, by omega, by omega⟩
    · simp only [spec_l29DrawOne.j2, e1, e2, Option.bind_some]
      rw [w64 (x := 399 + v2) (by omega) (by omega)]
      exact Ev.pos trivial (Ev.pos (by omega) (Ev.pos (by omega) (Ev.now _)))
    · rw [strOfNums_size, List.length_replicate, w64 (x := 399 + v2) (by omega) (by omega)]
      omega
  | false =>
    refine ⟨a, b, c, a1, s1, Ev.succ ?_, ha, hb, hc, by omega, by omega⟩
    simp only [spec_l29DrawOne.j2, e1, Option.bind_some]
    exact Ev.neg (by decide) (Ev.now _)
theorem j0_ok (l : List Int) (hl : Bytes l) (at_ s : Int) (h0 : 0 ≤ at_) (h1 : at_ ≤ 100000000000) (a b c : ByteArray) (ha : a ∈ kinds3) (hb : b.size ≤ 1000) (hc : c.size ≤ 1000000) :
    ∃ (x y z : ByteArray) (a' s' : Int), Ev (fun k => spec_l29DrawOne.j0 k l at_ s a b c) (x, y, z, a', s') ∧ x ∈ kinds3 ∧ y.size ≤ 1000 ∧ z.size ≤ 1000000 ∧ at_ ≤ a' ∧ a' ≤ at_ + 30 := by
  by_cases k : a.toList = ([97, 105, 114, 119, 97, 121] : List UInt8)
  · obtain ⟨v, a1, s1, e1, b1, c1⟩ := one_ok l hl at_ s 2 h0 (by omega) (by omega) (by omega)
    cases v with
    | true =>
      obtain ⟨c', d', e', f', a2, s2, e2, hc', hd', he', hf', b2, c2⟩ := drawOk_ok l hl a1 s1 (by omega) (by omega) b
      obtain ⟨t, ht, hts⟩ := text3_ok b hb c' d' e' f' hc' hd' he' hf'
      obtain ⟨x, y, z, a', s', h, hx, hy, hz, b3, c3⟩ := j2_ok l hl a2 s2 (by omega) (by omega) a b t ha hb hts
      refine ⟨x, y, z, a', s', Ev.succ ?_, hx, hy, hz, by omega, by omega⟩
      simp only [spec_l29DrawOne.j0, e1, Option.bind_some]
      refine Ev.pos k (Ev.succ ?_)
      simp only [spec_l29DrawOne.j1, e2, Option.bind_some]
      exact Ev.pos trivial (Ev.bind ht h)
    | false =>
      obtain ⟨x, y, z, a', s', h, hx, hy, hz, b3, c3⟩ := j2_ok l hl a1 s1 (by omega) (by omega) a b c ha hb hc
      refine ⟨x, y, z, a', s', Ev.succ ?_, hx, hy, hz, by omega, by omega⟩
      simp only [spec_l29DrawOne.j0, e1, Option.bind_some]
      refine Ev.pos k (Ev.succ ?_)
      simp only [spec_l29DrawOne.j1]
      exact Ev.neg (by decide) h
  · obtain ⟨x, y, z, a', s', h, hx, hy, hz, b3, c3⟩ := j2_ok l hl at_ s h0 (by omega) a b c ha hb hc
    refine ⟨x, y, z, a', s', Ev.succ ?_, hx, hy, hz, by omega, by omega⟩
    simp only [spec_l29DrawOne.j0]
    refine Ev.neg k (Ev.succ ?_)
    simp only [spec_l29DrawOne.j1]
    exact Ev.neg (by decide) h
theorem drawOne_ok (l : List Int) (hl : Bytes l) (at_ s : Int) (h0 : 0 ≤ at_) (h1 : at_ ≤ 10000000000) :
    ∃ (b : Blk) (a' s' : Int), Ev (fun k => spec_l29DrawOne.f k l at_ s) (b.f0, b.f1, b.f2, a', s') ∧ b.f0 ∈ kinds3 ∧ BFit b ∧ at_ ≤ a' ∧ a' ≤ at_ + 60 := by
  obtain ⟨t1, a1, s1, e1, m1, b1, c1⟩ := text_ok l hl at_ s h0 (by omega) kinds3 (by decide) (by decide)
  obtain ⟨t2, a2, s2, e2, m2, b2, c2⟩ := text_ok l hl a1 s1 (by omega) (by omega) [(⟨#[97]⟩ : ByteArray), (⟨#[98]⟩ : ByteArray), (⟨#[99]⟩ : ByteArray), (⟨#[100]⟩ : ByteArray)] (by simp) (by simp)
  obtain ⟨t3, a3, s3, e3, m3, b3, c3⟩ := text_ok l hl a2 s2 (by omega) (by omega) [(⟨#[]⟩ : ByteArray), (⟨#[120]⟩ : ByteArray), (⟨#[97, 32, 98, 32, 99]⟩ : ByteArray), (⟨#[49, 50, 32, 51, 52]⟩ : ByteArray), (⟨#[111, 97, 107, 47, 52, 48]⟩ : ByteArray)] (by simp) (by simp)
  obtain ⟨v, a4, s4, e4, b4, c4⟩ := one_ok l hl a3 s3 4 (by omega) (by omega) (by omega) (by omega)
  have z2 : t2.size ≤ 1000 := by
    have h : ∀ t ∈ [(⟨#[97]⟩ : ByteArray), (⟨#[98]⟩ : ByteArray), (⟨#[99]⟩ : ByteArray), (⟨#[100]⟩ : ByteArray)], t.size ≤ 1000 := by
      intro t ht
      simp only [List.mem_cons, List.not_mem_nil, or_false] at ht
      rcases ht with rfl | rfl | rfl | rfl <;> decide
    exact h t2 m2
  have z3 : t3.size ≤ 1000 := by
    have h : ∀ t ∈ [(⟨#[]⟩ : ByteArray), (⟨#[120]⟩ : ByteArray), (⟨#[97, 32, 98, 32, 99]⟩ : ByteArray), (⟨#[49, 50, 32, 51, 52]⟩ : ByteArray), (⟨#[111, 97, 107, 47, 52, 48]⟩ : ByteArray)], t.size ≤ 1000 := by
      intro t ht
      simp only [List.mem_cons, List.not_mem_nil, or_false] at ht
      rcases ht with rfl | rfl | rfl | rfl | rfl <;> decide
    exact h t3 m3
  have hk : ∀ x : ByteArray, x ∈ kinds3 → x.size ≤ 1000 := by
    intro x hx
    simp only [kinds3, List.mem_cons, List.not_mem_nil, or_false] at hx
    rcases hx with rfl | rfl | rfl <;> decide
  have e1' : spec_l00Src_text.f l at_ s ([(⟨#[97, 105, 114, 119, 97, 121]⟩ : ByteArray), (⟨#[110, 111, 116, 101]⟩ : ByteArray), (⟨#[102, 97, 99, 101]⟩ : ByteArray)] : List ByteArray) = some (t1, a1, s1) := e1
  cases v with
  | true =>
    obtain ⟨u, a5, s5, h5, z5, b5, c5⟩ := word_ok l hl a4 s4 (by omega) (by omega)
    have sz : (t3 ++ u).size = t3.size + u.size := ByteArray.size_append
    obtain ⟨x, y, z, a', s', h, hx, hy, hz, b6, c6⟩ := j0_ok l hl a5 s5 (by omega) (by omega) t1 t2 (t3 ++ u) m1 z2 (by omega)
    refine ⟨⟨x, y, z⟩, a', s', ?_, hx, ⟨Nat.le_trans (hk x hx) (by omega), Nat.le_trans hy (by omega), Nat.le_trans hz (by omega)⟩, by omega, by omega⟩
    simp only [spec_l29DrawOne.f, e1', e2, e3, e4, Option.bind_some]
    exact Ev.pos trivial (Ev.bind h5 (Ev.pos (show t3.size + u.size ≤ 9223372036854775807 by omega) h))
  | false =>
    obtain ⟨x, y, z, a', s', h, hx, hy, hz, b6, c6⟩ := j0_ok l hl a4 s4 (by omega) (by omega) t1 t2 t3 m1 z2 (by omega)
    refine ⟨⟨x, y, z⟩, a', s', ?_, hx, ⟨Nat.le_trans (hk x hx) (by omega), Nat.le_trans hy (by omega), Nat.le_trans hz (by omega)⟩, by omega, by omega⟩
    simp only [spec_l29DrawOne.f, e1', e2, e3, e4, Option.bind_some]
    exact Ev.neg (by decide) h
end Go.Proofs.Ytdcpccbhhoohkaa.A
end
section
namespace Go.Proofs.Ytdcpccbhhoohkaa.A
open Go.RowKit Go.Proofs.YtdcpccbhhoohkaaW.PrintWords Go.Proofs.YtdcpccbhhoohkaaW.PrintLast
theorem okFromB_of (l : List Blk) (hs : SortedB l) (ho : ∀ b ∈ l, blkOk b = true) : ∀ (d i : Nat), i + d = l.length → okFromB l d i = true := by
  intro d
  induction d with
  | zero =>
    intro i hi
    rfl
  | succ d ih =>
    intro i hi
    have hlt : i < l.length := by omega
    have h1 := ho l[i] (List.getElem_mem hlt)
    have h2 := ih (i + 1) (by omega)
    unfold okFromB
    rw [List.getElem?_eq_getElem hlt, h2, Bool.and_true]
    simp only [h1, Bool.true_and]
    cases i with
    | zero => rfl
    | succ j =>
      have hj : j < l.length := by omega
      simp only [List.getElem?_eq_getElem hj]
      exact hs j (j + 1) hj hlt (by omega)
theorem blksOk_of (l : List Blk) (hs : SortedB l) (ho : ∀ b ∈ l, blkOk b = true) (h : l.length ≤ 32) : blksOk l = true := by
  unfold blksOk
  rw [okFromB_of l hs ho l.length 0 (by omega), decide_eq_true h]
  rfl
theorem key_irr {a b : Blk} (h0 : a.f0 = b.f0) (h1 : a.f1 = b.f1) : blkLt a b = false := by
  unfold blkLt
  rw [h0, h1, bl_irr, bl_irr]
  simp
theorem put_full (l : List Blk) (t : Blk) (hs : SortedB l) (hl : l.length ≤ 1048576) :
    ∃ r : List Blk, SortedB r ∧ r.length ≤ l.length + 1 ∧ (∀ b ∈ r, b = t ∨ b ∈ l) ∧ t ∈ r ∧ (∀ b ∈ l, ¬ (b.f0 = t.f0 ∧ b.f1 = t.f1) → b ∈ r) ∧ ((∀ b ∈ l, ¬ (b.f0 = t.f0 ∧ b.f1 = t.f1)) → ∃ p, p ≤ l.length ∧ r = putAt l t p p) ∧
      Ev (fun k => spec_l29Put.f k l t.f0 t.f1 t.f2) r ∧ Ev (fun k => impl_withBlock.f k l t.f0 t.f1 t.f2) r := by
  have mem : ∀ p q, ∀ b ∈ putAt l t p q, b = t ∨ b ∈ l := fun p q b hb => by
    unfold putAt at hb
    rcases List.mem_append.1 hb with hb | hb
    · exact .inr (List.mem_of_mem_take hb)
    · rcases List.mem_cons.1 hb with hb | hb
      · exact .inl hb
      · exact .inr (List.mem_of_mem_drop hb)
  have tin : ∀ p q, t ∈ putAt l t p q := fun p q => by
    unfold putAt
    simp
  have keep : ∀ p q, p ≤ q → (∀ j (h : j < l.length), p ≤ j → j < q → l[j].f0 = t.f0 ∧ l[j].f1 = t.f1) → ∀ b ∈ l, ¬ (b.f0 = t.f0 ∧ b.f1 = t.f1) → b ∈ putAt l t p q := fun p q hpq hq b hb hk => by
    obtain ⟨j, hj, rfl⟩ := List.mem_iff_getElem.1 hb
    unfold putAt
    by_cases c1 : j < p
    · exact List.mem_append_left _ (List.mem_iff_getElem.2 ⟨j, by rw [List.length_take]; omega, by rw [List.getElem_take]⟩)
    · by_cases c2 : j < q
      · exact absurd (hq j hj (by omega) c2) hk
      · refine List.mem_append_right _ (List.mem_cons_of_mem _ (List.mem_iff_getElem.2 ⟨j - q, by rw [List.length_drop]; omega, ?_⟩))
        rw [List.getElem_drop]
        congr 1
        omega
  obtain ⟨p, hp, ⟨h, h0, h1, h2⟩ | ⟨hk, h2⟩⟩ := find_bs l t hs hl
  · refine ⟨putAt l t p (p + 1), putAt_sorted l t hs p (p + 1) hp (by omega) (fun j hj hij => ?_), ?_, mem _ _, tin _ _, keep p (p + 1) (by omega) (fun j hj a b => ?_), fun hno => absurd ⟨h0, h1⟩ (hno l[p] (List.getElem_mem h)), l29Put_same l t hl hs p hp h h0 h1, ?_⟩
    · have h3 := hs p j h hj (by omega)
      unfold blkLt at h3 ⊢
      rw [h0, h1] at h3
      exact h3
    · simp [putAt]
      omega
    · obtain rfl : j = p := by omega
      exact ⟨h0, h1⟩
    · simp only [impl_withBlock.f]
      refine Ev.bind h2 (Ev.bind (Ev.const (cloneB_eq' l hl)) (Ev.pos rfl (Ev.pos (by omega) (Ev.pos (by omega) (Ev.to (Ev.now _) ?_)))))
      rw [Int.toNat_natCast, List.set_eq_take_append_cons_drop, if_pos h]
      rfl
  · refine ⟨putAt l t p p, putAt_sorted l t hs p p hp (Nat.le_refl _) (fun j hj hij => blkLt_tri (hp.above j hj hij) (hk j hj)), ?_, mem _ _, tin _ _, keep p p (Nat.le_refl _) (fun j hj a b => absurd b (by omega)), fun _ => ⟨p, hp.le, rfl⟩, l29Put_new l t hl p hp hk, ?_⟩
    · have := hp.le
      simp [putAt]
      omega
    · simp only [impl_withBlock.f]
      exact Ev.bind h2 (Ev.bind (Ev.const (cloneB_eq' l hl)) (Ev.neg (by simp) (Ev.bind (Ev.const (insertB_eq l t p hp.le hl)) (Ev.now _))))
structure Good (L : List Blk) (n : Nat) : Prop where
  ok : blksOk L = true
  len : L.length ≤ n
  fit : ∀ b ∈ L, BFit b
  kind : ∀ b ∈ L, b.f0 ∈ kinds3
theorem specPut_ok (l : List Blk) (t : Blk) (n : Nat) (hg : Good l n) (hn : n ≤ 30) (ht : BFit t) (hk : t.f0 ∈ kinds3) :
    ∃ (r : List Blk) (c : Int), Ev (fun k => spec_PutBlock.f k l t.f0 t.f1 t.f2) (r, c) ∧ (c = 0 → Good r (n + 1)) := by
  obtain ⟨hok, hlen, hf, hkind⟩ := hg
  obtain ⟨hs, _, ho⟩ := blksOk_sorted hok
  have ha := l29Ok_ev l (by omega) hf
  have hc : Ev (fun k => spec_l29One.f k [(⟨t.f0, t.f1, t.f2⟩ : Blk)] 0) (blkOk t) := l29One_ev [t] 0 (by simp) ht
  rw [hok] at ha
  simp only [spec_PutBlock.f]
  cases hb : blkOk t with
  | true =>
    rw [hb] at hc
    obtain ⟨r, h1, h2, h3, _, _, _, h4, _⟩ := put_full l t hs (by omega)
    refine ⟨r, 0, Ev.bind ha (Ev.pos rfl (Ev.bind hc (Ev.succ ?_))), fun _ => ⟨blksOk_of r h1 (fun b hb' => ?_) (by omega), by omega, fun b hb' => ?_, fun b hb' => ?_⟩⟩
    · simp only [spec_PutBlock.j0, Bool.not_true]
      exact Ev.neg (by decide) (Ev.bind h4 (Ev.neg (by omega) (Ev.now _)))
    · rcases h3 b hb' with rfl | e
      · exact hb
      · exact ho b e
    · rcases h3 b hb' with rfl | e
      · exact ht
      · exact hf b e
    · rcases h3 b hb' with rfl | e
      · exact hk
      · exact hkind b e
  | false =>
    rw [hb] at hc
    refine ⟨[], 1, Ev.bind ha (Ev.pos rfl (Ev.bind hc (Ev.succ ?_))), fun h => absurd h (by decide)⟩
    simp only [spec_PutBlock.j0, Bool.not_false]
    exact Ev.pos trivial (Ev.now _)
theorem draw_l0 (l : List Int) (hl : Bytes l) : ∀ (d : Nat) (acc : List Blk) (at_ s : Int) (n : Nat), Good acc n → n + d ≤ 20 → 0 ≤ at_ → at_ + 100 * d ≤ 1000000000 →
    ∃ (L : List Blk) (a' s' : Int), Ev (fun k => spec_l29Draw.l0 k acc (d : Int) l at_ s) (L, a', s') ∧ Good L (n + d) := by
  intro d
  induction d with
  | zero =>
    intro acc at_ s n hg hn h0 h1
    refine ⟨acc, at_, s, Ev.succ ?_, hg⟩
    simp only [spec_l29Draw.l0]
    exact Ev.neg (by omega) (Ev.now _)
  | succ d ih =>
    intro acc at_ s n hg hn h0 h1
    obtain ⟨b, a1, s1, e1, hk, hf, b1, c1⟩ := drawOne_ok l hl at_ s h0 (by omega)
    obtain ⟨r, c, e2, hr⟩ := specPut_ok acc b n hg (by omega) hf hk
    have hw : wrap64 (((d + 1 : Nat) : Int) - 1) = (d : Int) := by
      rw [w64 (by omega) (by omega)]
      omega
    by_cases hc : c = 0
    · obtain ⟨L, a', s', h, hL⟩ := ih r a1 s1 (n + 1) (hr hc) (by omega) (by omega) (by omega)
      refine ⟨L, a', s', Ev.succ ?_, by rw [show n + (d + 1) = n + 1 + d by omega]; exact hL⟩
      simp only [spec_l29Draw.l0, hw]
      exact Ev.pos (by omega) (Ev.bind e1 (Ev.bind e2 (Ev.pos hc h)))
    · obtain ⟨L, a', s', h, hL⟩ := ih acc a1 s1 n hg (by omega) (by omega) (by omega)
      refine ⟨L, a', s', Ev.succ ?_, ⟨hL.ok, by have := hL.len; omega, hL.fit, hL.kind⟩⟩
      simp only [spec_l29Draw.l0, hw]
      exact Ev.pos (by omega) (Ev.bind e1 (Ev.bind e2 (Ev.neg hc h)))
theorem R8_ok (l : List Int) (hl : Bytes l) : ∃ L : List Blk, Ev (fun k => spec_R8Blocks.f k l) L ∧ Good L 10 := by
  obtain ⟨v, a1, s1, e1, v0, v1, b1, c1⟩ := pick_ok l hl 0 0 6 (by omega) (by omega) (by omega) (by omega)
  obtain ⟨d, rfl⟩ := Int.eq_ofNat_of_zero_le v0
  obtain ⟨L, a', s', h, hL⟩ := draw_l0 l hl d [] a1 s1 0 ⟨rfl, by simp, by simp, by simp⟩ (by omega) (by omega) (by omega)
  refine ⟨L, ?_, hL.ok, by have := hL.len; omega, hL.fit, hL.kind⟩
  simp only [spec_R8Blocks.f, spec_l00From.f, spec_l29Draw.f, Option.bind_some, e1]
  exact Ev.bind h (Ev.now _)
theorem named_of_mem (l : List Blk) (hok : blksOk l = true) (hf : ∀ b ∈ l, BFit b) (x : Blk) (hx : x ∈ l) : Ev (fun k => impl_BlockNamed.f k l x.f0 x.f1) (x.f2, 0) := by
  obtain ⟨hs, h32, _⟩ := blksOk_sorted hok
  have hb := ValidBlocks_ev l (by omega) hf
  rw [hok] at hb
  obtain ⟨j, hj, rfl⟩ := List.mem_iff_getElem.1 hx
  simp only [impl_BlockNamed.f]
  obtain ⟨p, _, ⟨h, h0, h1, h3⟩ | ⟨hk, _⟩⟩ := find_bs l ⟨l[j].f0, l[j].f1, (⟨#[]⟩ : ByteArray)⟩ hs (by omega)
  · have e : p = j := by
      rcases Nat.lt_trichotomy p j with c | c | c
      · have := hs p j h hj c
        rw [key_irr (a := l[p]) (b := l[j]) h0 h1] at this
        exact absurd this (by decide)
      · exact c
      · have := hs j p hj h c
        rw [key_irr (a := l[j]) (b := l[p]) h0.symm h1.symm] at this
        exact absurd this (by decide)
    subst e
    refine Ev.bind hb (Ev.pos rfl (Ev.bind h3 (Ev.pos rfl (Ev.pos (by omega) (Ev.pos (by omega) (Ev.to (Ev.now _) ?_))))))
    rw [rdB_at l p h]
  · exact absurd ⟨rfl, rfl⟩ (hk j hj)
theorem cut_putAt (l : List Blk) (t : Blk) (p : Nat) (hp : p ≤ l.length) : (putAt l t p p).take p ++ (putAt l t p p).drop (p + 1) = l := by
  have e : (l.take p).length = p := by
    rw [List.length_take]
    omega
  unfold putAt
  rw [List.take_append_of_le_length (by omega), List.take_of_length_le (by omega), List.drop_append, List.drop_of_length_le (by omega), e, show p + 1 - p = 1 by omega]
  simp
theorem drop_putAt (l : List Blk) (t : Blk) (p : Nat) (hp : p ≤ l.length) (hok : blksOk (putAt l t p p) = true) (hf : ∀ b ∈ putAt l t p p, BFit b) : Ev (fun k => impl_DropBlock.f k (putAt l t p p) t.f0 t.f1) (l, 0) := by
  obtain ⟨hs, h32, _⟩ := blksOk_sorted hok
  have hb := ValidBlocks_ev (putAt l t p p) (by omega) hf
  rw [hok] at hb
  have hlen : (putAt l t p p).length = l.length + 1 := by
    simp [putAt]
    omega
  have hat : (putAt l t p p)[p]'(by omega) = t := by
    unfold putAt
    rw [List.getElem_append_right (by rw [List.length_take]; omega)]
    simp only [List.length_take, Nat.min_eq_left hp, Nat.sub_self, List.getElem_cons_zero]
  simp only [impl_DropBlock.f]
  obtain ⟨q, _, ⟨h, h0, h1, h3⟩ | ⟨hk, _⟩⟩ := find_bs (putAt l t p p) ⟨t.f0, t.f1, (⟨#[]⟩ : ByteArray)⟩ hs (by omega)
  · have e : q = p := by
      rcases Nat.lt_trichotomy q p with c | c | c
      · have := hs q p h (by omega) c
        rw [key_irr (by rw [hat]; exact h0) (by rw [hat]; exact h1)] at this
        exact absurd this (by decide)
      · exact c
      · have := hs p q (by omega) h c
        rw [key_irr (by rw [hat]; exact h0.symm) (by rw [hat]; exact h1.symm)] at this
        exact absurd this (by decide)
    subst e
    refine Ev.bind hb (Ev.pos rfl (Ev.bind h3 (Ev.pos rfl (Ev.bind (Ev.const (cloneB_eq' _ (by omega))) ?_))))
    have hw : wrap64 ((q : Int) + 1) = ((q + 1 : Nat) : Int) := w64_succ h (by omega)
    have hd : impl_Block_31.f (putAt l t q q) (q : Int) ((q + 1 : Nat) : Int) = some l := by
      unfold impl_Block_31.f
      rw [if_pos ⟨by omega, by omega, by omega⟩, Int.toNat_natCast, Int.toNat_natCast, cut_putAt l t q hp]
    simp only [hw]
    exact Ev.bind (Ev.const hd) (Ev.now _)
  · refine absurd ?_ (hk p (by omega))
    rw [hat]
    exact ⟨rfl, rfl⟩
theorem same_l0 (l : List Blk) (hl : l.length ≤ 1048576) : ∀ (d i : Nat), i + d = l.length → Ev (fun k => spec_l29Same.l0 k l l i) true := by
  intro d
  induction d with
  | zero =>
    intro i hi
    refine Ev.succ ?_
    simp only [spec_l29Same.l0]
    exact Ev.neg (by omega) (Ev.now _)
  | succ d ih =>
    intro i hi
    have hlt : i < l.length := by omega
    refine Ev.succ ?_
    simp only [spec_l29Same.l0, w64_succ hlt (by omega : l.length ≤ _), beq_self_eq_true, Bool.not_true, Bool.or_false]
    exact Ev.pos (by omega) (Ev.pos (by omega) (Ev.pos (by omega) (Ev.neg (by simp) (ih (i + 1) (by omega)))))
theorem same_ok (l : List Blk) (hl : l.length ≤ 1048576) : Ev (fun k => spec_SameBlocks.f k l l) true := by
  simp only [spec_SameBlocks.f, spec_l29Same.f]
  exact Ev.bind (Ev.pos trivial (same_l0 l hl l.length 0 (by omega))) (Ev.now _)
theorem merge_l0 (b : List Blk) (hb : SortedB b) (hl : b.length ≤ 20) : ∀ (d i : Nat) (acc : List Blk), i + d = b.length → SortedB acc → acc.length + d ≤ 20 → (∀ j (h : j < b.length), j < i → b[j] ∈ acc) →
    ∃ r : List Blk, Ev (fun k => impl_MergeBlocks.l0 k acc b (b.length : Int) i) (r, 0) ∧ SortedB r ∧ r.length ≤ acc.length + d ∧ (∀ x ∈ r, x ∈ acc ∨ x ∈ b) ∧ (∀ x ∈ b, x ∈ r) := by
  intro d
  induction d with
  | zero =>
    intro i acc hi hs ha hin
    refine ⟨acc, Ev.succ ?_, hs, by omega, fun x hx => .inl hx, fun x hx => ?_⟩
    · simp only [impl_MergeBlocks.l0]
      exact Ev.neg (by omega) (Ev.neg (by omega) (Ev.now _))
    · obtain ⟨j, hj, rfl⟩ := List.mem_iff_getElem.1 hx
      exact hin j hj (by omega)
  | succ d ih =>
    intro i acc hi hs ha hin
    have hlt : i < b.length := by omega
    obtain ⟨a2, g1, g2, g3, g4, g5, _, _, g6⟩ := put_full acc b[i] hs (by omega)
    obtain ⟨r, h1, h2, h3, h4, h5⟩ := ih (i + 1) a2 (by omega) g1 (by omega) (fun j hj hji => by
      by_cases c : j = i
      · subst c
        exact g4
      · refine g5 _ (hin j hj (by omega)) fun e => ?_
        have := hb j i hj hlt (by omega)
        rw [key_irr e.1 e.2] at this
        exact absurd this (by decide))
    refine ⟨r, Ev.succ ?_, h2, by omega, fun x hx => ?_, h5⟩
    · simp only [impl_MergeBlocks.l0, rdB_at b i hlt, w64_succ hlt (by omega : b.length ≤ _)]
      exact Ev.pos (by omega) (Ev.pos (by omega) (Ev.pos (by omega) (Ev.bind g6 h1)))
    · rcases h4 x hx with e | e
      · rcases g3 x e with rfl | f
        · exact .inr (List.getElem_mem hlt)
        · exact .inl f
      · exact .inr e
theorem merge_ok (l m : List Blk) (gl : Good l 10) (gm : Good m 10) :
    ∃ r : List Blk, Ev (fun k => impl_MergeBlocks.f k l m) (r, 0) ∧ blksOk r = true ∧ (∀ b ∈ r, BFit b) ∧ r.length ≤ l.length + m.length ∧ (∀ x ∈ m, x ∈ r) := by
  obtain ⟨hs, _, ho⟩ := blksOk_sorted gl.ok
  obtain ⟨hs2, _, ho2⟩ := blksOk_sorted gm.ok
  have l1 := gl.len
  have l2 := gm.len
  obtain ⟨r, h1, h2, h3, h4, h5⟩ := merge_l0 m hs2 (by omega) m.length 0 l (by omega) hs (by omega) (fun j hj h => absurd h (by omega))
  have hb := ValidBlocks_ev l (by omega) gl.fit
  have hd := ValidBlocks_ev m (by omega) gm.fit
  rw [gl.ok] at hb
  rw [gm.ok] at hd
  refine ⟨r, ?_, blksOk_of r h2 (fun b hb' => ?_) (by omega), fun b hb' => ?_, by omega, h5⟩
  · simp only [impl_MergeBlocks.f]
    refine Ev.bind hb (Ev.pos rfl (Ev.bind hd (Ev.succ ?_)))
    simp only [impl_MergeBlocks.j0, Bool.not_true]
    exact Ev.neg (by decide) (Ev.bind (Ev.const (cloneB_eq' l (by omega))) h1)
  · rcases h4 b hb' with e | e
    · exact ho b e
    · exact ho2 b e
  · rcases h4 b hb' with e | e
    · exact gl.fit b e
    · exact gm.fit b e
theorem ofKind_l0 (l : List Blk) (w : ByteArray) (hl : l.length ≤ 1048576) : ∀ (d i : Nat) (acc : List ByteArray), i + d = l.length → acc.length ≤ i →
    Ev (fun k => impl_BlocksOfKind.l0 k w acc l (l.length : Int) i) (acc ++ ((l.drop i).filter fun b => decide (b.f0.toList = w.toList)).map (·.f1), 0) := by
  intro d
  induction d with
  | zero =>
    intro i acc hi ha
    refine Ev.succ ?_
    simp only [impl_BlocksOfKind.l0]
    rw [List.drop_of_length_le (by omega)]
    refine Ev.neg (by omega) (Ev.to (Ev.now _) ?_)
    simp
  | succ d ih =>
    intro i acc hi ha
    have hlt : i < l.length := by omega
    refine Ev.succ ?_
    simp only [impl_BlocksOfKind.l0, rdB_at l i hlt, w64_succ hlt (by omega : l.length ≤ _)]
    rw [List.drop_eq_getElem_cons hlt, List.filter_cons]
    by_cases hc : l[i].f0.toList = w.toList
    · have h2 := ih (i + 1) (acc ++ [l[i].f1]) (by omega) (by simp; omega)
      rw [if_pos (decide_eq_true hc), List.map_cons]
      rw [List.append_assoc, List.singleton_append] at h2
      exact Ev.pos (by omega) (Ev.pos (by omega) (Ev.pos (by omega) (Ev.pos hc (Ev.pos (by omega) h2))))
    · have h2 := ih (i + 1) acc (by omega) (by omega)
      rw [if_neg (by simp [hc])]
      exact Ev.pos (by omega) (Ev.pos (by omega) (Ev.pos (by omega) (Ev.neg hc h2)))
theorem ofKind_ok (l : List Blk) (hok : blksOk l = true) (hf : ∀ b ∈ l, BFit b) (w : ByteArray) : Ev (fun k => impl_BlocksOfKind.f k l w) ((l.filter fun b => decide (b.f0.toList = w.toList)).map (·.f1), 0) := by
  obtain ⟨hs, h32, _⟩ := blksOk_sorted hok
  have hb := ValidBlocks_ev l (by omega) hf
  rw [hok] at hb
  simp only [impl_BlocksOfKind.f]
  have h := ofKind_l0 l w (by omega) l.length 0 [] (by omega) (by simp)
  rw [List.nil_append, List.drop_zero] at h
  exact Ev.bind hb (Ev.pos rfl h)
def newB : Blk := ⟨(⟨#[110, 101, 119]⟩ : ByteArray), (⟨#[120]⟩ : ByteArray), (⟨#[116]⟩ : ByteArray)⟩
theorem newB_ok : blkOk newB = true := by decide
theorem newB_fit : BFit newB := ⟨by decide, by decide, by decide⟩
theorem newB_kind (b : Blk) (h : b.f0 ∈ kinds3) : ¬ b.f0.toList = newB.f0.toList := by
  simp only [kinds3, List.mem_cons, List.not_mem_nil, or_false] at h
  rcases h with h | h | h <;> rw [h, toList_eq, toList_eq] <;> decide
theorem putNew_ok (l : List Blk) (g : Good l 10) : ∃ p, p ≤ l.length ∧ Ev (fun k => impl_PutBlock.f k l newB.f0 newB.f1 newB.f2) (putAt l newB p p, 0) ∧ blksOk (putAt l newB p p) = true ∧ (∀ b ∈ putAt l newB p p, BFit b) ∧ newB ∈ putAt l newB p p ∧
    ((putAt l newB p p).filter fun b => decide (b.f0.toList = newB.f0.toList)).length = 1 := by
  obtain ⟨hs, _, ho⟩ := blksOk_sorted g.ok
  have l1 := g.len
  obtain ⟨r, h1, h2, h3, h4, _, h5, _, h6⟩ := put_full l newB hs (by omega)
  obtain ⟨p, hp, rfl⟩ := h5 (fun b hb e => newB_kind b (g.kind b hb) (by rw [e.1]))
  have hb := ValidBlocks_ev l (by omega) g.fit
  have hd := ValidBlock_ev newB newB_fit
  rw [g.ok] at hb
  rw [newB_ok] at hd
  refine ⟨p, hp, ?_, blksOk_of _ h1 (fun b hb' => ?_) (by omega), fun b hb' => ?_, h4, ?_⟩
  · simp only [impl_PutBlock.f]
    refine Ev.bind hb (Ev.pos rfl (Ev.bind hd (Ev.succ ?_)))
    simp only [impl_PutBlock.j0, Bool.not_true]
    exact Ev.neg (by decide) (Ev.bind h6 (Ev.neg (by omega) (Ev.now _)))
  · rcases h3 b hb' with rfl | e
    · exact newB_ok
    · exact ho b e
  · rcases h3 b hb' with rfl | e
    · exact newB_fit
    · exact g.fit b e
  · have f1 : ∀ m : List Blk, (∀ b ∈ m, b ∈ l) → (m.filter fun b => decide (b.f0.toList = newB.f0.toList)) = [] := fun m hm => by
      rw [List.filter_eq_nil_iff]
      intro b hb' e
      exact newB_kind b (g.kind b (hm b hb')) (of_decide_eq_true e)
    unfold putAt
    rw [List.filter_append, List.filter_cons, if_pos (decide_eq_true rfl), f1 _ (fun b hb' => List.mem_of_mem_take hb'), f1 _ (fun b hb' => List.mem_of_mem_drop hb')]
    rfl
theorem law_l0 (L m both : List Blk) (hl : m.length ≤ 10) (hL : L.length ≤ 10) (hok : blksOk both = true) (hf : ∀ b ∈ both, BFit b) (hm : ∀ x ∈ m, x ∈ both) (hlen : both.length ≤ L.length + m.length) : ∀ (d i : Nat), i + d = m.length → Ev (fun k => laws_FnBlocks.l0 k L m both i) true := by
  intro d
  induction d with
  | zero =>
    intro i hi
    refine Ev.succ ?_
    simp only [laws_FnBlocks.l0]
    rw [w64 (x := (L.length : Int) + (m.length : Int)) (by omega) (by omega)]
    refine Ev.neg (by omega) (Ev.to (Ev.now _) (decide_eq_true ?_))
    omega
  | succ d ih =>
    intro i hi
    have hlt : i < m.length := by omega
    refine Ev.succ ?_
    simp only [laws_FnBlocks.l0, rdB_at m i hlt, w64_succ hlt (by omega : m.length ≤ _)]
    exact Ev.pos (by omega) (Ev.pos (by omega) (Ev.bind (named_of_mem both hok hf m[i] (hm _ (List.getElem_mem hlt))) (Ev.pos rfl (Ev.pos rfl (ih (i + 1) (by omega))))))
theorem bytes_of (l : List Int) (h : ∀ z ∈ l, (Lit.int .u8 z).wf = true) : Bytes l := fun x hx => by
  have := h x hx
  simp [Lit.wf, IntKind.min, IntKind.max, IntKind.signed, IntKind.bits] at this
  omega
theorem FnBlocks : laws_FnBlocks.Pure := by
  rintro l m ⟨hl, hlb⟩ ⟨hm, hmb⟩
  refine Ev.rounds (g := fun k => laws_FnBlocks.f k l m) ?_
  simp only [laws_FnBlocks.f, laws_r8Long.f]
  by_cases c : (l.length : Int) > 1048576
  · simp only [if_pos c, Option.bind_some]
    exact Ev.pos trivial (Ev.now _)
  simp only [if_neg c, Option.bind_some]
  by_cases c2 : (m.length : Int) > 1048576
  · exact Ev.pos (by simpa using c2) (Ev.now _)
  refine Ev.neg (by simpa using c2) ?_
  obtain ⟨L, e1, gL⟩ := R8_ok l (bytes_of l hlb)
  obtain ⟨M, e2, gM⟩ := R8_ok m (bytes_of m hmb)
  obtain ⟨p, hp, e3, ok3, fit3, in3, one3⟩ := putNew_ok L gL
  have e4 := named_of_mem (putAt L newB p p) ok3 fit3 newB in3
  have e5 := drop_putAt L newB p hp ok3 fit3
  obtain ⟨both, e6, ok6, fit6, len6, in6⟩ := merge_ok L M gL gM
  have e7 := ofKind_ok (putAt L newB p p) ok3 fit3 newB.f0
  have l1 := gL.len
  have l2 := gM.len
  have e8 := same_ok L (by omega)
  have e9 : Ev (fun k => spec_ValidBlocks.f k both) true := by
    simp only [spec_ValidBlocks.f]
    have := l29Ok_ev both (by omega) fit6
    rw [ok6] at this
    exact Ev.bind this (Ev.now _)
  refine Ev.bind e1 (Ev.bind e2 (Ev.bind e3 (Ev.bind e4 (Ev.bind e5 (Ev.bind e6 (Ev.bind e7 (Ev.pos rfl (Ev.pos rfl (Ev.pos ?_ (Ev.pos rfl (Ev.bind e8 (Ev.pos rfl (Ev.pos rfl (Ev.bind e9 (Ev.pos rfl (Ev.pos rfl (Ev.succ ?_)))))))))))))))))
  · show newB.f2.toList = [116]
    rw [toList_eq]
    rfl
  · simp only [laws_FnBlocks.j0, List.length_map, one3]
    exact Ev.neg (by decide) (law_l0 L M both (by omega) (by omega) ok6 fit6 in6 len6 M.length 0 (by omega))
end Go.Proofs.Ytdcpccbhhoohkaa.A
end
section
namespace Go.Proofs.Ytdcpccbhhoohkaa.Open
open Go.ChangeShapes Go.WideShapes Go.Deep Go.RowKit Go.Proofs.YtdcpccbhhoohkaaW.PrintWords
structure Opens {α : Type} (P : Program) (t : TypeId) (d : Kd α) (wf : α → Prop) : Prop where
  out : ∀ {H : Type} {enc : TypeId × Value → H} {w : World} {base : Nat} {spare : Nat → Bool} {held : Bool} {fuel : Nat} {cs : List Value} {x : DataW H × List MemPlace},
    DataW.trod enc P w base spare held fuel t cs = some x → ∃ v : α, d.K w v cs ∧ wf v
theorem opens_int {P : Program} {t : TypeId} {k : IntKind} (ht : P.underlying t = some (.int k)) : Opens P t (Kd.int k) (fun n => (Lit.int k n).wf = true) := by
  refine ⟨?_⟩
  intro H enc w base spare held fuel cs x h
  obtain ⟨n, rfl, _, hw⟩ := DataW.trod_int ht h
  exact ⟨n, rfl, hw⟩
theorem opens_slice {α : Type} {P : Program} {t e : TypeId} {d : Kd α} {wf : α → Prop} (ht : P.underlying t = some (.slice e)) (hd : Opens P e d wf) (hc : P.cellsOf e = d.sz) :
    Opens P t (Kd.slice e d) (fun l => l.length ≤ maxLen ∧ ∀ x ∈ l, wf x) := by
  refine ⟨?_⟩
  intro H enc w base spare held fuel cs x h
  rcases open_slice ht h with ⟨rfl, _⟩ | ⟨a, len, cap, m, n, D, Pl, rfl, _, hl, hm, hmm, _, hi⟩
  · exact ⟨[], ⟨none, 0, rfl, Nat.le_refl _, ⟨rfl, by simp, fun h => absurd h (by simp)⟩⟩, by simp⟩
  · have hlm : len ≤ m := by
      rw [hmm]
      split
      · exact hl
      · exact Nat.le_refl _
    have each : ∀ i, i < len → ∃ v : α, (∃ cs', w.cells? base (a.add (i * d.sz)) d.sz = some cs' ∧ d.K w v cs') ∧ wf v := by
      intro i hil
      obtain ⟨cs', h1, h2⟩ := hi i (by omega)
      obtain ⟨v, h3, h4⟩ := hd.out h2
      rw [hc] at h1
      exact ⟨v, ⟨cs', h1, h3⟩, h4⟩
    have all : ∀ k, k ≤ len → ∃ l : List α, l.length = k ∧ ∀ i v, l[i]? = some v → (∃ cs', w.cells? base (a.add (i * d.sz)) d.sz = some cs' ∧ d.K w v cs') ∧ wf v := by
      intro k
      induction k with
      | zero => exact fun _ => ⟨[], rfl, fun i v h => by simp at h⟩
      | succ k ih =>
        intro hk
        obtain ⟨l, hl1, hl2⟩ := ih (by omega)
        obtain ⟨v, hv⟩ := each k (by omega)
        refine ⟨l ++ [v], by simp [hl1], fun i u hu => ?_⟩
        by_cases hik : i < k
        · rw [List.getElem?_append_left (by omega)] at hu
          exact hl2 i u hu
        · have hlt := (List.getElem?_eq_some_iff.1 hu).1
          simp [hl1] at hlt
          obtain rfl : i = k := by omega
          rw [List.getElem?_append_right (by omega), hl1, Nat.sub_self] at hu
          simp at hu
          subst hu
          exact hv
    obtain ⟨l, hl1, hl2⟩ := all len (Nat.le_refl _)
    refine ⟨l, ⟨some a, cap, by rw [hl1], by omega, ⟨rfl, by unfold maxLen at hm; omega, fun _ => ⟨a, rfl, fun j p hp => ?_⟩⟩⟩, by omega, fun x hx => ?_⟩
    · obtain ⟨⟨cs', hcs, hK⟩, _⟩ := hl2 j p hp
      obtain ⟨_, hcl, hat⟩ := World.cells?_some hcs
      refine ⟨cs', d.K_len hK, hK, fun i u hu => ?_⟩
      have hlt := (List.getElem?_eq_some_iff.1 hu).1
      have := hat i (by omega)
      rw [← Go.Deep.add_add, this, hu]
    · obtain ⟨i, hi'⟩ := List.getElem?_of_mem hx
      exact (hl2 i x hi').2
theorem arg_slice {α H : Type} {enc : TypeId × Value → H} {P : Program} {W : World} {base : Nat} {spare : Nat → Bool} {held : Bool} {t e : TypeId} {d : Kd α} {wf : List α → Prop} {a : Option Addr} {len cap : Nat} {x : DataW H} {ps : List MemPlace}
    (ho : Opens P t (Kd.slice e d) wf) (h : DataW.Trod enc P W base spare held t (.slice a len cap) x ps) :
    ∃ l : List α, len = l.length ∧ l.length ≤ cap ∧ Kd.C d W a l.length l ∧ wf l := by
  obtain ⟨fuel, hf⟩ := h
  obtain ⟨l, ⟨A, c, hcs, hl, hC⟩, hw⟩ := ho.out hf
  simp [Value.cells] at hcs
  obtain ⟨rfl, rfl, rfl⟩ := hcs
  exact ⟨l, rfl, hl, hC, hw⟩
end Go.Proofs.Ytdcpccbhhoohkaa.Open
end
