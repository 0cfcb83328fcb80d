/- Part 4 of the proof of FnExactNewDeskSaid: the functions that the law runs as plain Lean functions, the contracts of their calls, and plain facts about them. Condition: none beyond each theorem's own hypotheses. -/
import Derived.Test.YtdcpccbhhoohkaaCFnExactNewDesk0
import Derived.Deep.Slices
import Derived.Deep.Fields
import Derived.ChangeSame
import Derived.ProofKit
import Derived.Test.YtdcpccbhhoohkaaVFnExactNewDeskWords
import Derived.Test.YtdcpccbhhoohkaaVFnExactNewDeskLast
import Derived.Test.YtdcpccbhhoohkaaVFnExactNewDeskTab
import Derived.Test.YtdcpccbhhoohkaaVFnExactNewDeskFour
import Derived.Test.YtdcpccbhhoohkaaVFnExactNewDeskQPut
import Derived.Test.YtdcpccbhhoohkaaVFnExactNewDeskApart
import Derived.Test.YtdcpccbhhoohkaaVFnExactNewDeskArr
import Derived.Test.YtdcpccbhhoohkaaVFnExactNewDeskZeros
import Derived.Test.YtdcpccbhhoohkaaVFnExactNewDeskFoot
import Derived.Test.YtdcpccbhhoohkaaVFnExactNewDeskKept
import Derived.Test.YtdcpccbhhoohkaaVFnExactNewDeskShare
import Derived.Test.YtdcpccbhhoohkaaVFnExactNewDeskN
import Derived.Test.YtdcpccbhhoohkaaVFnExactNewDeskFootNe
import Derived.Test.YtdcpccbhhoohkaaVFnExactNewDeskAt
import Derived.Test.YtdcpccbhhoohkaaVFnExactNewDeskEqStruct
import Derived.Test.YtdcpccbhhoohkaaVFnExactNewDeskRepsOne
import Derived.Test.YtdcpccbhhoohkaaVFnExactNewDeskInv
import Derived.Test.YtdcpccbhhoohkaaVFnExactNewDeskInvWords
import Derived.Test.YtdcpccbhhoohkaaVFnExactNewDeskGuard
import Derived.Test.YtdcpccbhhoohkaaVFnExactNewDeskNEv
import Derived.Test.YtdcpccbhhoohkaaVFnExactNewDeskMore
import Derived.Test.YtdcpccbhhoohkaaCFnExactNewDesk2
section
namespace Go.Proofs.Ytdcpccbhhoohkaa.A
open Go.RowKit Go.Proofs.YtdcpccbhhoohkaaW.PrintWords Go.Proofs.YtdcpccbhhoohkaaW.PrintLast Go.Proofs.YtdcpccbhhoohkaaW.PrintMore
attribute [local go_sem] max2_int min2_int max_two min_two max_three min_three max_four min_four   -- for this text's walks alone
set_option linter.unusedVariables false
set_option linter.unusedSimpArgs false
set_option maxHeartbeats 8000000 in
theorem laws_FnExactNewDesk.noAirwayS (A : Option Addr) (c : Nat) (k : Int) (w : World) : Calls Try.prog 98 #[.slice A 0 c, .int .i64 k] w fun e w' => e = .returned (.int .i64 k) ∧ Drawn0 w w' := by
  go_enter Try.func98, Try.ntmps98
  go_wp2
  go_loopg [1, 5] 1 (fun kq v1 v5 w' => v1 = .int .i64 k ∧ v5 = .int .i64 0 ∧ Drawn0 w w')
  case atStart => exact ⟨rfl, rfl, by repeat (first | exact Drawn0.refl _ | apply Drawn0.step)⟩
  case round =>
    obtain ⟨rfl, rfl, ⟨m1, rfl⟩⟩ := hrel
    go_wp2
    go_ret
    exact ⟨rfl, by repeat (first | exact Drawn0.refl _ | apply Drawn0.step)⟩
set_option maxHeartbeats 8000000 in
theorem laws_FnExactNewDesk.noInt64S (A : Option Addr) (c : Nat) (k : Int) (w : World) : Calls Try.prog 44 #[.slice A 0 c, .int .i64 k] w fun e w' => e = .returned (.int .i64 k) ∧ Drawn0 w w' := by
  go_enter Try.func44, Try.ntmps44
  go_wp2
  go_loopg [1, 5] 1 (fun kq v1 v5 w' => v1 = .int .i64 k ∧ v5 = .int .i64 0 ∧ Drawn0 w w')
  case atStart => exact ⟨rfl, rfl, by repeat (first | exact Drawn0.refl _ | apply Drawn0.step)⟩
  case round =>
    obtain ⟨rfl, rfl, ⟨m1, rfl⟩⟩ := hrel
    go_wp2
    go_ret
    exact ⟨rfl, by repeat (first | exact Drawn0.refl _ | apply Drawn0.step)⟩
set_option maxHeartbeats 8000000 in
theorem laws_FnExactNewDesk.noFanS (A : Option Addr) (c : Nat) (k : Int) (w : World) : Calls Try.prog 45 #[.slice A 0 c, .int .i64 k] w fun e w' => e = .returned (.int .i64 k) ∧ Drawn0 w w' := by
  go_enter Try.func45, Try.ntmps45
  go_wp2
  go_loopg [1, 5] 1 (fun kq v1 v5 w' => v1 = .int .i64 k ∧ v5 = .int .i64 0 ∧ Drawn0 w w')
  case atStart => exact ⟨rfl, rfl, by repeat (first | exact Drawn0.refl _ | apply Drawn0.step)⟩
  case round =>
    obtain ⟨rfl, rfl, ⟨m1, rfl⟩⟩ := hrel
    go_wp2
    go_ret
    exact ⟨rfl, by repeat (first | exact Drawn0.refl _ | apply Drawn0.step)⟩
set_option maxHeartbeats 8000000 in
theorem laws_FnExactNewDesk.noRefugeS (A : Option Addr) (c : Nat) (k : Int) (w : World) : Calls Try.prog 46 #[.slice A 0 c, .int .i64 k] w fun e w' => e = .returned (.int .i64 k) ∧ Drawn0 w w' := by
  go_enter Try.func46, Try.ntmps46
  go_wp2
  go_loopg [1, 5] 1 (fun kq v1 v5 w' => v1 = .int .i64 k ∧ v5 = .int .i64 0 ∧ Drawn0 w w')
  case atStart => exact ⟨rfl, rfl, by repeat (first | exact Drawn0.refl _ | apply Drawn0.step)⟩
  case round =>
    obtain ⟨rfl, rfl, ⟨m1, rfl⟩⟩ := hrel
    go_wp2
    go_ret
    exact ⟨rfl, by repeat (first | exact Drawn0.refl _ | apply Drawn0.step)⟩
set_option maxHeartbeats 8000000 in
theorem laws_FnExactNewDesk.noSensorS (A : Option Addr) (c : Nat) (k : Int) (w : World) : Calls Try.prog 47 #[.slice A 0 c, .int .i64 k] w fun e w' => e = .returned (.int .i64 k) ∧ Drawn0 w w' := by
  go_enter Try.func47, Try.ntmps47
  go_wp2
  go_loopg [1, 5] 1 (fun kq v1 v5 w' => v1 = .int .i64 k ∧ v5 = .int .i64 0 ∧ Drawn0 w w')
  case atStart => exact ⟨rfl, rfl, by repeat (first | exact Drawn0.refl _ | apply Drawn0.step)⟩
  case round =>
    obtain ⟨rfl, rfl, ⟨m1, rfl⟩⟩ := hrel
    go_wp2
    go_ret
    exact ⟨rfl, by repeat (first | exact Drawn0.refl _ | apply Drawn0.step)⟩
set_option maxHeartbeats 8000000 in
theorem laws_FnExactNewDesk.noPermitS (A : Option Addr) (c : Nat) (k : Int) (w : World) : Calls Try.prog 48 #[.slice A 0 c, .int .i64 k] w fun e w' => e = .returned (.int .i64 k) ∧ Drawn0 w w' := by
  go_enter Try.func48, Try.ntmps48
  go_wp2
  go_loopg [1, 5] 1 (fun kq v1 v5 w' => v1 = .int .i64 k ∧ v5 = .int .i64 0 ∧ Drawn0 w w')
  case atStart => exact ⟨rfl, rfl, by repeat (first | exact Drawn0.refl _ | apply Drawn0.step)⟩
  case round =>
    obtain ⟨rfl, rfl, ⟨m1, rfl⟩⟩ := hrel
    go_wp2
    go_ret
    exact ⟨rfl, by repeat (first | exact Drawn0.refl _ | apply Drawn0.step)⟩
set_option maxHeartbeats 8000000 in
theorem laws_FnExactNewDesk.noDrillS (A : Option Addr) (c : Nat) (k : Int) (w : World) : Calls Try.prog 49 #[.slice A 0 c, .int .i64 k] w fun e w' => e = .returned (.int .i64 k) ∧ Drawn0 w w' := by
  go_enter Try.func49, Try.ntmps49
  go_wp2
  go_loopg [1, 5] 1 (fun kq v1 v5 w' => v1 = .int .i64 k ∧ v5 = .int .i64 0 ∧ Drawn0 w w')
  case atStart => exact ⟨rfl, rfl, by repeat (first | exact Drawn0.refl _ | apply Drawn0.step)⟩
  case round =>
    obtain ⟨rfl, rfl, ⟨m1, rfl⟩⟩ := hrel
    go_wp2
    go_ret
    exact ⟨rfl, by repeat (first | exact Drawn0.refl _ | apply Drawn0.step)⟩
set_option maxHeartbeats 8000000 in
theorem laws_FnExactNewDesk.noMine (a : Int) (A : Option Addr) (c : Nat) (k : Int) (w : World) : Calls Try.prog 43 #[.agg #[.int .i64 a, .slice A 0 c], .int .i64 k] w fun e w' => e = .returned (.int .i64 k) ∧ Below w.heap.size w w' := by
  go_enter Try.func43, Try.ntmps43
  go_wp2_with (first | (go_at_call 98; refine (laws_FnExactNewDesk.noAirwayS _ _ _ _).mono ?_; rintro e w' ⟨rfl, ⟨nd, rfl⟩⟩))
  go_ret
  exact ⟨rfl, by repeat (first | exact Below.refl _ _ | apply below_alloc | apply pw_below_drewN | apply below_drew1)⟩
set_option maxHeartbeats 8000000 in
set_option maxRecDepth 100000 in
theorem laws_FnExactNewDesk.mark (A1 : Option Addr) (c1 : Nat) (A2 : Option Addr) (c2 : Nat) (A3 : Option Addr) (c3 : Nat) (A4 : Option Addr) (c4 : Nat) (A5 : Option Addr) (c5 : Nat) (A6 : Option Addr) (c6 : Nat) (A7 : Option Addr) (c7 : Nat) (A8 : Option Addr) (c8 : Nat) (k : Int) (w : World) : Calls Try.prog 18 #[.agg #[.int .i64 1, .slice A1 0 c1, .slice A2 0 c2, .slice A3 0 c3, .slice A4 0 c4, .slice A5 0 c5, .slice A6 0 c6, .slice A7 0 c7, .slice A8 0 c8], .int .i64 k] w fun e w' => e = .returned (.int .i64 k) ∧ Below w.heap.size w w' := by
  have hb0 : Below w.heap.size w (w.alloc (.cells #[.int .i64 1, .slice A1 0 c1, .slice A2 0 c2, .slice A3 0 c3, .slice A4 0 c4, .slice A5 0 c5, .slice A6 0 c6, .slice A7 0 c7, .slice A8 0 c8] 49)) := below_alloc (Below.refl _ _) _
  have hc : ∀ j v, (#[.int .i64 1, .slice A1 0 c1, .slice A2 0 c2, .slice A3 0 c3, .slice A4 0 c4, .slice A5 0 c5, .slice A6 0 c6, .slice A7 0 c7, .slice A8 0 c8] : Array Value)[j]? = some v → (w.alloc (.cells #[.int .i64 1, .slice A1 0 c1, .slice A2 0 c2, .slice A3 0 c3, .slice A4 0 c4, .slice A5 0 c5, .slice A6 0 c6, .slice A7 0 c7, .slice A8 0 c8] 49)).cell? ⟨w.heap.size, j, none⟩ = some v := fun j v h => by
    rw [World.cell?_alloc_new]
    exact h
  go_enter Try.func18, Try.ntmps18
  go_wp2_with (first | (go_at_call 43; refine (laws_FnExactNewDesk.noMine _ _ _ _ _).mono ?_; rintro e w1 ⟨rfl, hb⟩; have hx2 := pw_cell_below hb (hc 2 _ rfl); have hx3 := pw_cell_below hb (hc 3 _ rfl); have hx4 := pw_cell_below hb (hc 4 _ rfl); have hx5 := pw_cell_below hb (hc 5 _ rfl); have hx6 := pw_cell_below hb (hc 6 _ rfl); have hx7 := pw_cell_below hb (hc 7 _ rfl); have hx8 := pw_cell_below hb (hc 8 _ rfl); replace hb := below_step hb0 hb) | (go_at_call 44; refine (laws_FnExactNewDesk.noInt64S _ _ _ _).mono ?_; rintro e w' ⟨rfl, ⟨nd, rfl⟩⟩) | (go_at_call 45; refine (laws_FnExactNewDesk.noFanS _ _ _ _).mono ?_; rintro e w' ⟨rfl, ⟨nd, rfl⟩⟩) | (go_at_call 46; refine (laws_FnExactNewDesk.noRefugeS _ _ _ _).mono ?_; rintro e w' ⟨rfl, ⟨nd, rfl⟩⟩) | (go_at_call 47; refine (laws_FnExactNewDesk.noSensorS _ _ _ _).mono ?_; rintro e w' ⟨rfl, ⟨nd, rfl⟩⟩) | (go_at_call 48; refine (laws_FnExactNewDesk.noPermitS _ _ _ _).mono ?_; rintro e w' ⟨rfl, ⟨nd, rfl⟩⟩) | (go_at_call 49; refine (laws_FnExactNewDesk.noDrillS _ _ _ _).mono ?_; rintro e w' ⟨rfl, ⟨nd, rfl⟩⟩))
  go_ret
  exact ⟨rfl, by repeat (first | exact hb | apply below_alloc | apply pw_below_drewN | apply below_drew1)⟩
set_option maxHeartbeats 8000000 in
theorem laws_FnExactNewDesk.hAirwayS (A : Option Addr) (c : Nat) (w : World) : Calls Try.prog 101 #[.slice A 0 c, .int .i64 1] w fun e w' => e = .returned (.int .i64 1) ∧ Drawn0 w w' := by
  go_enter Try.func101, Try.ntmps101
  go_wp2
  go_loopg [1, 5] 1 (fun kq v1 v5 w' => v1 = .int .i64 1 ∧ v5 = .int .i64 0 ∧ Drawn0 w w')
  case atStart => exact ⟨rfl, rfl, by repeat (first | exact Drawn0.refl _ | apply Drawn0.step)⟩
  case round =>
    obtain ⟨rfl, rfl, ⟨m1, rfl⟩⟩ := hrel
    go_wp2
    go_ret
    exact ⟨rfl, by repeat (first | exact Drawn0.refl _ | apply Drawn0.step)⟩
set_option maxHeartbeats 8000000 in
theorem laws_FnExactNewDesk.hInt64S (A : Option Addr) (c : Nat) (w : World) : Calls Try.prog 51 #[.slice A 0 c, .int .i64 1] w fun e w' => e = .returned (.int .i64 1) ∧ Drawn0 w w' := by
  go_enter Try.func51, Try.ntmps51
  go_wp2
  go_loopg [1, 5] 1 (fun kq v1 v5 w' => v1 = .int .i64 1 ∧ v5 = .int .i64 0 ∧ Drawn0 w w')
  case atStart => exact ⟨rfl, rfl, by repeat (first | exact Drawn0.refl _ | apply Drawn0.step)⟩
  case round =>
    obtain ⟨rfl, rfl, ⟨m1, rfl⟩⟩ := hrel
    go_wp2
    go_ret
    exact ⟨rfl, by repeat (first | exact Drawn0.refl _ | apply Drawn0.step)⟩
set_option maxHeartbeats 8000000 in
theorem laws_FnExactNewDesk.hFanS (A : Option Addr) (c : Nat) (w : World) : Calls Try.prog 52 #[.slice A 0 c, .int .i64 1] w fun e w' => e = .returned (.int .i64 1) ∧ Drawn0 w w' := by
  go_enter Try.func52, Try.ntmps52
  go_wp2
  go_loopg [1, 5] 1 (fun kq v1 v5 w' => v1 = .int .i64 1 ∧ v5 = .int .i64 0 ∧ Drawn0 w w')
  case atStart => exact ⟨rfl, rfl, by repeat (first | exact Drawn0.refl _ | apply Drawn0.step)⟩
  case round =>
    obtain ⟨rfl, rfl, ⟨m1, rfl⟩⟩ := hrel
    go_wp2
    go_ret
    exact ⟨rfl, by repeat (first | exact Drawn0.refl _ | apply Drawn0.step)⟩
set_option maxHeartbeats 8000000 in
theorem laws_FnExactNewDesk.hRefugeS (A : Option Addr) (c : Nat) (w : World) : Calls Try.prog 53 #[.slice A 0 c, .int .i64 1] w fun e w' => e = .returned (.int .i64 1) ∧ Drawn0 w w' := by
  go_enter Try.func53, Try.ntmps53
  go_wp2
  go_loopg [1, 5] 1 (fun kq v1 v5 w' => v1 = .int .i64 1 ∧ v5 = .int .i64 0 ∧ Drawn0 w w')
  case atStart => exact ⟨rfl, rfl, by repeat (first | exact Drawn0.refl _ | apply Drawn0.step)⟩
  case round =>
    obtain ⟨rfl, rfl, ⟨m1, rfl⟩⟩ := hrel
    go_wp2
    go_ret
    exact ⟨rfl, by repeat (first | exact Drawn0.refl _ | apply Drawn0.step)⟩
set_option maxHeartbeats 8000000 in
theorem laws_FnExactNewDesk.hSensorS (A : Option Addr) (c : Nat) (w : World) : Calls Try.prog 54 #[.slice A 0 c, .int .i64 1] w fun e w' => e = .returned (.int .i64 1) ∧ Drawn0 w w' := by
  go_enter Try.func54, Try.ntmps54
  go_wp2
  go_loopg [1, 5] 1 (fun kq v1 v5 w' => v1 = .int .i64 1 ∧ v5 = .int .i64 0 ∧ Drawn0 w w')
  case atStart => exact ⟨rfl, rfl, by repeat (first | exact Drawn0.refl _ | apply Drawn0.step)⟩
  case round =>
    obtain ⟨rfl, rfl, ⟨m1, rfl⟩⟩ := hrel
    go_wp2
    go_ret
    exact ⟨rfl, by repeat (first | exact Drawn0.refl _ | apply Drawn0.step)⟩
set_option maxHeartbeats 8000000 in
theorem laws_FnExactNewDesk.hPermitS (A : Option Addr) (c : Nat) (w : World) : Calls Try.prog 55 #[.slice A 0 c, .int .i64 1] w fun e w' => e = .returned (.int .i64 1) ∧ Drawn0 w w' := by
  go_enter Try.func55, Try.ntmps55
  go_wp2
  go_loopg [1, 5] 1 (fun kq v1 v5 w' => v1 = .int .i64 1 ∧ v5 = .int .i64 0 ∧ Drawn0 w w')
  case atStart => exact ⟨rfl, rfl, by repeat (first | exact Drawn0.refl _ | apply Drawn0.step)⟩
  case round =>
    obtain ⟨rfl, rfl, ⟨m1, rfl⟩⟩ := hrel
    go_wp2
    go_ret
    exact ⟨rfl, by repeat (first | exact Drawn0.refl _ | apply Drawn0.step)⟩
set_option maxHeartbeats 8000000 in
theorem laws_FnExactNewDesk.hDrillS (A : Option Addr) (c : Nat) (w : World) : Calls Try.prog 56 #[.slice A 0 c, .int .i64 1] w fun e w' => e = .returned (.int .i64 1) ∧ Drawn0 w w' := by
  go_enter Try.func56, Try.ntmps56
  go_wp2
  go_loopg [1, 5] 1 (fun kq v1 v5 w' => v1 = .int .i64 1 ∧ v5 = .int .i64 0 ∧ Drawn0 w w')
  case atStart => exact ⟨rfl, rfl, by repeat (first | exact Drawn0.refl _ | apply Drawn0.step)⟩
  case round =>
    obtain ⟨rfl, rfl, ⟨m1, rfl⟩⟩ := hrel
    go_wp2
    go_ret
    exact ⟨rfl, by repeat (first | exact Drawn0.refl _ | apply Drawn0.step)⟩
set_option maxHeartbeats 8000000 in
theorem laws_FnExactNewDesk.hMine (a : Int) (A : Option Addr) (c : Nat) (w : World) : Calls Try.prog 50 #[.agg #[.int .i64 a, .slice A 0 c], .int .i64 1] w fun e w' => e = .returned (.int .i64 1) ∧ Below w.heap.size w w' := by
  go_enter Try.func50, Try.ntmps50
  go_wp2_with (first | (go_at_call 101; refine (laws_FnExactNewDesk.hAirwayS _ _ _).mono ?_; rintro e w' ⟨rfl, ⟨nd, rfl⟩⟩))
  go_ret
  exact ⟨rfl, by repeat (first | exact Below.refl _ _ | apply below_alloc | apply pw_below_drewN | apply below_drew1)⟩
set_option maxHeartbeats 8000000 in
set_option maxRecDepth 100000 in
theorem laws_FnExactNewDesk.held (A1 : Option Addr) (c1 : Nat) (A2 : Option Addr) (c2 : Nat) (A3 : Option Addr) (c3 : Nat) (A4 : Option Addr) (c4 : Nat) (A5 : Option Addr) (c5 : Nat) (A6 : Option Addr) (c6 : Nat) (A7 : Option Addr) (c7 : Nat) (A8 : Option Addr) (c8 : Nat) (w : World) : Calls Try.prog 19 #[.agg #[.int .i64 1, .slice A1 0 c1, .slice A2 0 c2, .slice A3 0 c3, .slice A4 0 c4, .slice A5 0 c5, .slice A6 0 c6, .slice A7 0 c7, .slice A8 0 c8], .int .i64 1] w fun e w' => e = .returned (.int .i64 1) ∧ Below w.heap.size w w' := by
  have hb0 : Below w.heap.size w (w.alloc (.cells #[.int .i64 1, .slice A1 0 c1, .slice A2 0 c2, .slice A3 0 c3, .slice A4 0 c4, .slice A5 0 c5, .slice A6 0 c6, .slice A7 0 c7, .slice A8 0 c8] 49)) := below_alloc (Below.refl _ _) _
  have hc : ∀ j v, (#[.int .i64 1, .slice A1 0 c1, .slice A2 0 c2, .slice A3 0 c3, .slice A4 0 c4, .slice A5 0 c5, .slice A6 0 c6, .slice A7 0 c7, .slice A8 0 c8] : Array Value)[j]? = some v → (w.alloc (.cells #[.int .i64 1, .slice A1 0 c1, .slice A2 0 c2, .slice A3 0 c3, .slice A4 0 c4, .slice A5 0 c5, .slice A6 0 c6, .slice A7 0 c7, .slice A8 0 c8] 49)).cell? ⟨w.heap.size, j, none⟩ = some v := fun j v h => by
    rw [World.cell?_alloc_new]
    exact h
  go_enter Try.func19, Try.ntmps19
  go_wp2_with (first | (go_at_call 50; refine (laws_FnExactNewDesk.hMine _ _ _ _).mono ?_; rintro e w1 ⟨rfl, hb⟩; have hx2 := pw_cell_below hb (hc 2 _ rfl); have hx3 := pw_cell_below hb (hc 3 _ rfl); have hx4 := pw_cell_below hb (hc 4 _ rfl); have hx5 := pw_cell_below hb (hc 5 _ rfl); have hx6 := pw_cell_below hb (hc 6 _ rfl); have hx7 := pw_cell_below hb (hc 7 _ rfl); have hx8 := pw_cell_below hb (hc 8 _ rfl); replace hb := below_step hb0 hb) | (go_at_call 51; refine (laws_FnExactNewDesk.hInt64S _ _ _).mono ?_; rintro e w' ⟨rfl, ⟨nd, rfl⟩⟩) | (go_at_call 52; refine (laws_FnExactNewDesk.hFanS _ _ _).mono ?_; rintro e w' ⟨rfl, ⟨nd, rfl⟩⟩) | (go_at_call 53; refine (laws_FnExactNewDesk.hRefugeS _ _ _).mono ?_; rintro e w' ⟨rfl, ⟨nd, rfl⟩⟩) | (go_at_call 54; refine (laws_FnExactNewDesk.hSensorS _ _ _).mono ?_; rintro e w' ⟨rfl, ⟨nd, rfl⟩⟩) | (go_at_call 55; refine (laws_FnExactNewDesk.hPermitS _ _ _).mono ?_; rintro e w' ⟨rfl, ⟨nd, rfl⟩⟩) | (go_at_call 56; refine (laws_FnExactNewDesk.hDrillS _ _ _).mono ?_; rintro e w' ⟨rfl, ⟨nd, rfl⟩⟩))
  go_ret
  exact ⟨rfl, by repeat (first | exact hb | apply below_alloc | apply pw_below_drewN | apply below_drew1)⟩
theorem laws_FnExactNewDesk.eqf : laws_eqDesk.f 100 1 [] [] [] [] [] [] [] [] 1 [] [] [] [] [] [] [] [] = some true := by rfl
theorem laws_FnExactNewDesk.c0 {α : Type} (d : Kd α) (w : World) (A : Option Addr) : Kd.C d w A ([] : List α).length [] := ⟨rfl, by simp, fun h => absurd h (by simp)⟩
theorem laws_FnExactNewDesk.eqD (A1 : Option Addr) (c1 : Nat) (A2 : Option Addr) (c2 : Nat) (A3 : Option Addr) (c3 : Nat) (A4 : Option Addr) (c4 : Nat) (A5 : Option Addr) (c5 : Nat) (A6 : Option Addr) (c6 : Nat) (A7 : Option Addr) (c7 : Nat) (A8 : Option Addr) (c8 : Nat) (Ax1 : Option Addr) (cx1 : Nat) (Ax2 : Option Addr) (cx2 : Nat) (Ax3 : Option Addr) (cx3 : Nat) (Ax4 : Option Addr) (cx4 : Nat) (Ax5 : Option Addr) (cx5 : Nat) (Ax6 : Option Addr) (cx6 : Nat) (Ax7 : Option Addr) (cx7 : Nat) (Ax8 : Option Addr) (cx8 : Nat) (w : World) : Calls Try.prog 17 #[.agg #[.int .i64 1, .slice A1 0 c1, .slice A2 0 c2, .slice A3 0 c3, .slice A4 0 c4, .slice A5 0 c5, .slice A6 0 c6, .slice A7 0 c7, .slice A8 0 c8], .agg #[.int .i64 1, .slice Ax1 0 cx1, .slice Ax2 0 cx2, .slice Ax3 0 cx3, .slice Ax4 0 cx4, .slice Ax5 0 cx5, .slice Ax6 0 cx6, .slice Ax7 0 cx7, .slice Ax8 0 cx8]] w fun e w' => e = .returned (.bool true) ∧ Below w.heap.size w w' :=
  laws_eqDesk.calls 100 1 A1 c1 [] A2 c2 [] A3 c3 [] A4 c4 [] A5 c5 [] A6 c6 [] A7 c7 [] A8 c8 [] 1 Ax1 cx1 [] Ax2 cx2 [] Ax3 cx3 [] Ax4 cx4 [] Ax5 cx5 [] Ax6 cx6 [] Ax7 cx7 [] Ax8 cx8 [] true w (laws_FnExactNewDesk.c0 _ _ _) (Nat.zero_le _) (laws_FnExactNewDesk.c0 _ _ _) (Nat.zero_le _) (laws_FnExactNewDesk.c0 _ _ _) (Nat.zero_le _) (laws_FnExactNewDesk.c0 _ _ _) (Nat.zero_le _) (laws_FnExactNewDesk.c0 _ _ _) (Nat.zero_le _) (laws_FnExactNewDesk.c0 _ _ _) (Nat.zero_le _) (laws_FnExactNewDesk.c0 _ _ _) (Nat.zero_le _) (laws_FnExactNewDesk.c0 _ _ _) (Nat.zero_le _) (laws_FnExactNewDesk.c0 _ _ _) (Nat.zero_le _) (laws_FnExactNewDesk.c0 _ _ _) (Nat.zero_le _) (laws_FnExactNewDesk.c0 _ _ _) (Nat.zero_le _) (laws_FnExactNewDesk.c0 _ _ _) (Nat.zero_le _) (laws_FnExactNewDesk.c0 _ _ _) (Nat.zero_le _) (laws_FnExactNewDesk.c0 _ _ _) (Nat.zero_le _) (laws_FnExactNewDesk.c0 _ _ _) (Nat.zero_le _) (laws_FnExactNewDesk.c0 _ _ _) (Nat.zero_le _) laws_FnExactNewDesk.eqf
theorem laws_FnExactNewDesk.emp {α : Type} {d : Kd α} {e : Nat} {w : World} {base : Nat} {ok : Nat → Prop} {v : Value} (h : d.R e w base ok v []) : ∃ (A : Option Addr) (c : Nat), v = .slice A 0 c := by
  obtain ⟨A, c, h1, _⟩ := Kd.R_reads h
  exact ⟨A, c, h1⟩
def laws_FnExactNewDesk.f : Option Bool := some true
set_option maxHeartbeats 8000000 in
set_option maxRecDepth 100000 in
theorem laws_FnExactNewDesk.calls (r : Bool) (w : World) (h : laws_FnExactNewDesk.f = some r) :
    Calls Try.prog 4 #[] w fun e w' => e = .returned (.bool r) ∧ Below w.heap.size w w' := by
  obtain rfl := Option.some.inj h
  clear h
  have HB := Below.refl w.heap.size w
  go_enter Try.func4, Try.ntmps4
  go_wp2_with (first | (go_at_call 15; (refine (spec_NewDesk.calls 1 [] [] [] [] [] [] [] [] _ rfl).mono ?_); rintro e w1 ⟨v1, v2, v3, v4, v5, v6, v7, v8, rfl, h1, h2, h3, h4, h5, h6, h7, h8, hb⟩; obtain ⟨_, _, rfl⟩ := laws_FnExactNewDesk.emp h1; obtain ⟨_, _, rfl⟩ := laws_FnExactNewDesk.emp h2; obtain ⟨_, _, rfl⟩ := laws_FnExactNewDesk.emp h3; obtain ⟨_, _, rfl⟩ := laws_FnExactNewDesk.emp h4; obtain ⟨_, _, rfl⟩ := laws_FnExactNewDesk.emp h5; obtain ⟨_, _, rfl⟩ := laws_FnExactNewDesk.emp h6; obtain ⟨_, _, rfl⟩ := laws_FnExactNewDesk.emp h7; obtain ⟨_, _, rfl⟩ := laws_FnExactNewDesk.emp h8; replace HB := below_step (by repeat (first | exact HB | apply below_alloc | apply pw_below_drewN | apply below_drew1)) hb) | (go_at_call 16; (refine (impl_NewDesk.calls 1 [] [] [] [] [] [] [] [] _ rfl).mono ?_); rintro e w1 ⟨v1, v2, v3, v4, v5, v6, v7, v8, rfl, h1, h2, h3, h4, h5, h6, h7, h8, hb⟩; obtain ⟨_, _, rfl⟩ := laws_FnExactNewDesk.emp h1; obtain ⟨_, _, rfl⟩ := laws_FnExactNewDesk.emp h2; obtain ⟨_, _, rfl⟩ := laws_FnExactNewDesk.emp h3; obtain ⟨_, _, rfl⟩ := laws_FnExactNewDesk.emp h4; obtain ⟨_, _, rfl⟩ := laws_FnExactNewDesk.emp h5; obtain ⟨_, _, rfl⟩ := laws_FnExactNewDesk.emp h6; obtain ⟨_, _, rfl⟩ := laws_FnExactNewDesk.emp h7; obtain ⟨_, _, rfl⟩ := laws_FnExactNewDesk.emp h8; (first | replace k0 := pw_cell_below hb k0 | replace k0 := pw_cell_below hb (ko0 _) | have k0 := pw_cell_below hb ((World.cell?_alloc_new _ _ _ 0).trans rfl)); (first | replace k1 := pw_cell_below hb k1 | replace k1 := pw_cell_below hb (ko1 _) | have k1 := pw_cell_below hb ((World.cell?_alloc_new _ _ _ 1).trans rfl)); (first | replace k2 := pw_cell_below hb k2 | replace k2 := pw_cell_below hb (ko2 _) | have k2 := pw_cell_below hb ((World.cell?_alloc_new _ _ _ 2).trans rfl)); (first | replace k3 := pw_cell_below hb k3 | replace k3 := pw_cell_below hb (ko3 _) | have k3 := pw_cell_below hb ((World.cell?_alloc_new _ _ _ 3).trans rfl)); (first | replace k4 := pw_cell_below hb k4 | replace k4 := pw_cell_below hb (ko4 _) | have k4 := pw_cell_below hb ((World.cell?_alloc_new _ _ _ 4).trans rfl)); (first | replace k5 := pw_cell_below hb k5 | replace k5 := pw_cell_below hb (ko5 _) | have k5 := pw_cell_below hb ((World.cell?_alloc_new _ _ _ 5).trans rfl)); (first | replace k6 := pw_cell_below hb k6 | replace k6 := pw_cell_below hb (ko6 _) | have k6 := pw_cell_below hb ((World.cell?_alloc_new _ _ _ 6).trans rfl)); (first | replace k7 := pw_cell_below hb k7 | replace k7 := pw_cell_below hb (ko7 _) | have k7 := pw_cell_below hb ((World.cell?_alloc_new _ _ _ 7).trans rfl)); (first | replace k8 := pw_cell_below hb k8 | replace k8 := pw_cell_below hb (ko8 _) | have k8 := pw_cell_below hb ((World.cell?_alloc_new _ _ _ 8).trans rfl)); (try clear ko0); (try have ko0 := fun o => (World.cell?_alloc_lt _ o _ (World.block_lt_of_cell? _ _ k0)).trans k0); (try clear ko1); (try have ko1 := fun o => (World.cell?_alloc_lt _ o _ (World.block_lt_of_cell? _ _ k1)).trans k1); (try clear ko2); (try have ko2 := fun o => (World.cell?_alloc_lt _ o _ (World.block_lt_of_cell? _ _ k2)).trans k2); (try clear ko3); (try have ko3 := fun o => (World.cell?_alloc_lt _ o _ (World.block_lt_of_cell? _ _ k3)).trans k3); (try clear ko4); (try have ko4 := fun o => (World.cell?_alloc_lt _ o _ (World.block_lt_of_cell? _ _ k4)).trans k4); (try clear ko5); (try have ko5 := fun o => (World.cell?_alloc_lt _ o _ (World.block_lt_of_cell? _ _ k5)).trans k5); (try clear ko6); (try have ko6 := fun o => (World.cell?_alloc_lt _ o _ (World.block_lt_of_cell? _ _ k6)).trans k6); (try clear ko7); (try have ko7 := fun o => (World.cell?_alloc_lt _ o _ (World.block_lt_of_cell? _ _ k7)).trans k7); (try clear ko8); (try have ko8 := fun o => (World.cell?_alloc_lt _ o _ (World.block_lt_of_cell? _ _ k8)).trans k8); (first | replace m0 := pw_cell_below hb m0 | replace m0 := pw_cell_below hb (mo0 _) | skip); (first | replace m1 := pw_cell_below hb m1 | replace m1 := pw_cell_below hb (mo1 _) | skip); (first | replace m2 := pw_cell_below hb m2 | replace m2 := pw_cell_below hb (mo2 _) | skip); (first | replace m3 := pw_cell_below hb m3 | replace m3 := pw_cell_below hb (mo3 _) | skip); (first | replace m4 := pw_cell_below hb m4 | replace m4 := pw_cell_below hb (mo4 _) | skip); (first | replace m5 := pw_cell_below hb m5 | replace m5 := pw_cell_below hb (mo5 _) | skip); (first | replace m6 := pw_cell_below hb m6 | replace m6 := pw_cell_below hb (mo6 _) | skip); (first | replace m7 := pw_cell_below hb m7 | replace m7 := pw_cell_below hb (mo7 _) | skip); (first | replace m8 := pw_cell_below hb m8 | replace m8 := pw_cell_below hb (mo8 _) | skip); (try clear mo0); (try have mo0 := fun o => (World.cell?_alloc_lt _ o _ (World.block_lt_of_cell? _ _ m0)).trans m0); (try clear mo1); (try have mo1 := fun o => (World.cell?_alloc_lt _ o _ (World.block_lt_of_cell? _ _ m1)).trans m1); (try clear mo2); (try have mo2 := fun o => (World.cell?_alloc_lt _ o _ (World.block_lt_of_cell? _ _ m2)).trans m2); (try clear mo3); (try have mo3 := fun o => (World.cell?_alloc_lt _ o _ (World.block_lt_of_cell? _ _ m3)).trans m3); (try clear mo4); (try have mo4 := fun o => (World.cell?_alloc_lt _ o _ (World.block_lt_of_cell? _ _ m4)).trans m4); (try clear mo5); (try have mo5 := fun o => (World.cell?_alloc_lt _ o _ (World.block_lt_of_cell? _ _ m5)).trans m5); (try clear mo6); (try have mo6 := fun o => (World.cell?_alloc_lt _ o _ (World.block_lt_of_cell? _ _ m6)).trans m6); (try clear mo7); (try have mo7 := fun o => (World.cell?_alloc_lt _ o _ (World.block_lt_of_cell? _ _ m7)).trans m7); (try clear mo8); (try have mo8 := fun o => (World.cell?_alloc_lt _ o _ (World.block_lt_of_cell? _ _ m8)).trans m8); replace HB := below_step (by repeat (first | exact HB | apply below_alloc | apply pw_below_drewN | apply below_drew1)) hb) | (go_at_call 17; refine (laws_FnExactNewDesk.eqD _ _ _ _ _ _ _ _ _ _ _ _ _ _ _ _ _ _ _ _ _ _ _ _ _ _ _ _ _ _ _ _ _).mono ?_; rintro e w1 ⟨rfl, hb⟩; (first | replace k0 := pw_cell_below hb k0 | replace k0 := pw_cell_below hb (ko0 _) | skip); (first | replace k1 := pw_cell_below hb k1 | replace k1 := pw_cell_below hb (ko1 _) | skip); (first | replace k2 := pw_cell_below hb k2 | replace k2 := pw_cell_below hb (ko2 _) | skip); (first | replace k3 := pw_cell_below hb k3 | replace k3 := pw_cell_below hb (ko3 _) | skip); (first | replace k4 := pw_cell_below hb k4 | replace k4 := pw_cell_below hb (ko4 _) | skip); (first | replace k5 := pw_cell_below hb k5 | replace k5 := pw_cell_below hb (ko5 _) | skip); (first | replace k6 := pw_cell_below hb k6 | replace k6 := pw_cell_below hb (ko6 _) | skip); (first | replace k7 := pw_cell_below hb k7 | replace k7 := pw_cell_below hb (ko7 _) | skip); (first | replace k8 := pw_cell_below hb k8 | replace k8 := pw_cell_below hb (ko8 _) | skip); (try clear ko0); (try have ko0 := fun o => (World.cell?_alloc_lt _ o _ (World.block_lt_of_cell? _ _ k0)).trans k0); (try clear ko1); (try have ko1 := fun o => (World.cell?_alloc_lt _ o _ (World.block_lt_of_cell? _ _ k1)).trans k1); (try clear ko2); (try have ko2 := fun o => (World.cell?_alloc_lt _ o _ (World.block_lt_of_cell? _ _ k2)).trans k2); (try clear ko3); (try have ko3 := fun o => (World.cell?_alloc_lt _ o _ (World.block_lt_of_cell? _ _ k3)).trans k3); (try clear ko4); (try have ko4 := fun o => (World.cell?_alloc_lt _ o _ (World.block_lt_of_cell? _ _ k4)).trans k4); (try clear ko5); (try have ko5 := fun o => (World.cell?_alloc_lt _ o _ (World.block_lt_of_cell? _ _ k5)).trans k5); (try clear ko6); (try have ko6 := fun o => (World.cell?_alloc_lt _ o _ (World.block_lt_of_cell? _ _ k6)).trans k6); (try clear ko7); (try have ko7 := fun o => (World.cell?_alloc_lt _ o _ (World.block_lt_of_cell? _ _ k7)).trans k7); (try clear ko8); (try have ko8 := fun o => (World.cell?_alloc_lt _ o _ (World.block_lt_of_cell? _ _ k8)).trans k8); (first | replace m0 := pw_cell_below hb m0 | replace m0 := pw_cell_below hb (mo0 _) | have m0 := pw_cell_below hb ((World.cell?_alloc_new _ _ _ 0).trans rfl)); (first | replace m1 := pw_cell_below hb m1 | replace m1 := pw_cell_below hb (mo1 _) | have m1 := pw_cell_below hb ((World.cell?_alloc_new _ _ _ 1).trans rfl)); (first | replace m2 := pw_cell_below hb m2 | replace m2 := pw_cell_below hb (mo2 _) | have m2 := pw_cell_below hb ((World.cell?_alloc_new _ _ _ 2).trans rfl)); (first | replace m3 := pw_cell_below hb m3 | replace m3 := pw_cell_below hb (mo3 _) | have m3 := pw_cell_below hb ((World.cell?_alloc_new _ _ _ 3).trans rfl)); (first | replace m4 := pw_cell_below hb m4 | replace m4 := pw_cell_below hb (mo4 _) | have m4 := pw_cell_below hb ((World.cell?_alloc_new _ _ _ 4).trans rfl)); (first | replace m5 := pw_cell_below hb m5 | replace m5 := pw_cell_below hb (mo5 _) | have m5 := pw_cell_below hb ((World.cell?_alloc_new _ _ _ 5).trans rfl)); (first | replace m6 := pw_cell_below hb m6 | replace m6 := pw_cell_below hb (mo6 _) | have m6 := pw_cell_below hb ((World.cell?_alloc_new _ _ _ 6).trans rfl)); (first | replace m7 := pw_cell_below hb m7 | replace m7 := pw_cell_below hb (mo7 _) | have m7 := pw_cell_below hb ((World.cell?_alloc_new _ _ _ 7).trans rfl)); (first | replace m8 := pw_cell_below hb m8 | replace m8 := pw_cell_below hb (mo8 _) | have m8 := pw_cell_below hb ((World.cell?_alloc_new _ _ _ 8).trans rfl)); (try clear mo0); (try have mo0 := fun o => (World.cell?_alloc_lt _ o _ (World.block_lt_of_cell? _ _ m0)).trans m0); (try clear mo1); (try have mo1 := fun o => (World.cell?_alloc_lt _ o _ (World.block_lt_of_cell? _ _ m1)).trans m1); (try clear mo2); (try have mo2 := fun o => (World.cell?_alloc_lt _ o _ (World.block_lt_of_cell? _ _ m2)).trans m2); (try clear mo3); (try have mo3 := fun o => (World.cell?_alloc_lt _ o _ (World.block_lt_of_cell? _ _ m3)).trans m3); (try clear mo4); (try have mo4 := fun o => (World.cell?_alloc_lt _ o _ (World.block_lt_of_cell? _ _ m4)).trans m4); (try clear mo5); (try have mo5 := fun o => (World.cell?_alloc_lt _ o _ (World.block_lt_of_cell? _ _ m5)).trans m5); (try clear mo6); (try have mo6 := fun o => (World.cell?_alloc_lt _ o _ (World.block_lt_of_cell? _ _ m6)).trans m6); (try clear mo7); (try have mo7 := fun o => (World.cell?_alloc_lt _ o _ (World.block_lt_of_cell? _ _ m7)).trans m7); (try clear mo8); (try have mo8 := fun o => (World.cell?_alloc_lt _ o _ (World.block_lt_of_cell? _ _ m8)).trans m8); replace HB := below_step (by repeat (first | exact HB | apply below_alloc | apply pw_below_drewN | apply below_drew1)) hb) | (go_at_call 18; refine (laws_FnExactNewDesk.mark _ _ _ _ _ _ _ _ _ _ _ _ _ _ _ _ 1 _).mono ?_; rintro e w1 ⟨rfl, hb⟩; (first | replace k0 := pw_cell_below hb k0 | replace k0 := pw_cell_below hb (ko0 _) | skip); (first | replace k1 := pw_cell_below hb k1 | replace k1 := pw_cell_below hb (ko1 _) | skip); (first | replace k2 := pw_cell_below hb k2 | replace k2 := pw_cell_below hb (ko2 _) | skip); (first | replace k3 := pw_cell_below hb k3 | replace k3 := pw_cell_below hb (ko3 _) | skip); (first | replace k4 := pw_cell_below hb k4 | replace k4 := pw_cell_below hb (ko4 _) | skip); (first | replace k5 := pw_cell_below hb k5 | replace k5 := pw_cell_below hb (ko5 _) | skip); (first | replace k6 := pw_cell_below hb k6 | replace k6 := pw_cell_below hb (ko6 _) | skip); (first | replace k7 := pw_cell_below hb k7 | replace k7 := pw_cell_below hb (ko7 _) | skip); (first | replace k8 := pw_cell_below hb k8 | replace k8 := pw_cell_below hb (ko8 _) | skip); (try clear ko0); (try have ko0 := fun o => (World.cell?_alloc_lt _ o _ (World.block_lt_of_cell? _ _ k0)).trans k0); (try clear ko1); (try have ko1 := fun o => (World.cell?_alloc_lt _ o _ (World.block_lt_of_cell? _ _ k1)).trans k1); (try clear ko2); (try have ko2 := fun o => (World.cell?_alloc_lt _ o _ (World.block_lt_of_cell? _ _ k2)).trans k2); (try clear ko3); (try have ko3 := fun o => (World.cell?_alloc_lt _ o _ (World.block_lt_of_cell? _ _ k3)).trans k3); (try clear ko4); (try have ko4 := fun o => (World.cell?_alloc_lt _ o _ (World.block_lt_of_cell? _ _ k4)).trans k4); (try clear ko5); (try have ko5 := fun o => (World.cell?_alloc_lt _ o _ (World.block_lt_of_cell? _ _ k5)).trans k5); (try clear ko6); (try have ko6 := fun o => (World.cell?_alloc_lt _ o _ (World.block_lt_of_cell? _ _ k6)).trans k6); (try clear ko7); (try have ko7 := fun o => (World.cell?_alloc_lt _ o _ (World.block_lt_of_cell? _ _ k7)).trans k7); (try clear ko8); (try have ko8 := fun o => (World.cell?_alloc_lt _ o _ (World.block_lt_of_cell? _ _ k8)).trans k8); (first | replace m0 := pw_cell_below hb m0 | replace m0 := pw_cell_below hb (mo0 _) | skip); (first | replace m1 := pw_cell_below hb m1 | replace m1 := pw_cell_below hb (mo1 _) | skip); (first | replace m2 := pw_cell_below hb m2 | replace m2 := pw_cell_below hb (mo2 _) | skip); (first | replace m3 := pw_cell_below hb m3 | replace m3 := pw_cell_below hb (mo3 _) | skip); (first | replace m4 := pw_cell_below hb m4 | replace m4 := pw_cell_below hb (mo4 _) | skip); (first | replace m5 := pw_cell_below hb m5 | replace m5 := pw_cell_below hb (mo5 _) | skip); (first | replace m6 := pw_cell_below hb m6 | replace m6 := pw_cell_below hb (mo6 _) | skip); (first | replace m7 := pw_cell_below hb m7 | replace m7 := pw_cell_below hb (mo7 _) | skip); (first | replace m8 := pw_cell_below hb m8 | replace m8 := pw_cell_below hb (mo8 _) | skip); (try clear mo0); (try have mo0 := fun o => (World.cell?_alloc_lt _ o _ (World.block_lt_of_cell? _ _ m0)).trans m0); (try clear mo1); (try have mo1 := fun o => (World.cell?_alloc_lt _ o _ (World.block_lt_of_cell? _ _ m1)).trans m1); (try clear mo2); (try have mo2 := fun o => (World.cell?_alloc_lt _ o _ (World.block_lt_of_cell? _ _ m2)).trans m2); (try clear mo3); (try have mo3 := fun o => (World.cell?_alloc_lt _ o _ (World.block_lt_of_cell? _ _ m3)).trans m3); (try clear mo4); (try have mo4 := fun o => (World.cell?_alloc_lt _ o _ (World.block_lt_of_cell? _ _ m4)).trans m4); (try clear mo5); (try have mo5 := fun o => (World.cell?_alloc_lt _ o _ (World.block_lt_of_cell? _ _ m5)).trans m5); (try clear mo6); (try have mo6 := fun o => (World.cell?_alloc_lt _ o _ (World.block_lt_of_cell? _ _ m6)).trans m6); (try clear mo7); (try have mo7 := fun o => (World.cell?_alloc_lt _ o _ (World.block_lt_of_cell? _ _ m7)).trans m7); (try clear mo8); (try have mo8 := fun o => (World.cell?_alloc_lt _ o _ (World.block_lt_of_cell? _ _ m8)).trans m8); replace HB := below_step (by repeat (first | exact HB | apply below_alloc | apply pw_below_drewN | apply below_drew1)) hb) | (go_at_call 19; refine (laws_FnExactNewDesk.held _ _ _ _ _ _ _ _ _ _ _ _ _ _ _ _ _).mono ?_; rintro e w1 ⟨rfl, hb⟩; (first | replace k0 := pw_cell_below hb k0 | replace k0 := pw_cell_below hb (ko0 _) | skip); (first | replace k1 := pw_cell_below hb k1 | replace k1 := pw_cell_below hb (ko1 _) | skip); (first | replace k2 := pw_cell_below hb k2 | replace k2 := pw_cell_below hb (ko2 _) | skip); (first | replace k3 := pw_cell_below hb k3 | replace k3 := pw_cell_below hb (ko3 _) | skip); (first | replace k4 := pw_cell_below hb k4 | replace k4 := pw_cell_below hb (ko4 _) | skip); (first | replace k5 := pw_cell_below hb k5 | replace k5 := pw_cell_below hb (ko5 _) | skip); (first | replace k6 := pw_cell_below hb k6 | replace k6 := pw_cell_below hb (ko6 _) | skip); (first | replace k7 := pw_cell_below hb k7 | replace k7 := pw_cell_below hb (ko7 _) | skip); (first | replace k8 := pw_cell_below hb k8 | replace k8 := pw_cell_below hb (ko8 _) | skip); (try clear ko0); (try have ko0 := fun o => (World.cell?_alloc_lt _ o _ (World.block_lt_of_cell? _ _ k0)).trans k0); (try clear ko1); (try have ko1 := fun o => (World.cell?_alloc_lt _ o _ (World.block_lt_of_cell? _ _ k1)).trans k1); (try clear ko2); (try have ko2 := fun o => (World.cell?_alloc_lt _ o _ (World.block_lt_of_cell? _ _ k2)).trans k2); (try clear ko3); (try have ko3 := fun o => (World.cell?_alloc_lt _ o _ (World.block_lt_of_cell? _ _ k3)).trans k3); (try clear ko4); (try have ko4 := fun o => (World.cell?_alloc_lt _ o _ (World.block_lt_of_cell? _ _ k4)).trans k4); (try clear ko5); (try have ko5 := fun o => (World.cell?_alloc_lt _ o _ (World.block_lt_of_cell? _ _ k5)).trans k5); (try clear ko6); (try have ko6 := fun o => (World.cell?_alloc_lt _ o _ (World.block_lt_of_cell? _ _ k6)).trans k6); (try clear ko7); (try have ko7 := fun o => (World.cell?_alloc_lt _ o _ (World.block_lt_of_cell? _ _ k7)).trans k7); (try clear ko8); (try have ko8 := fun o => (World.cell?_alloc_lt _ o _ (World.block_lt_of_cell? _ _ k8)).trans k8); (first | replace m0 := pw_cell_below hb m0 | replace m0 := pw_cell_below hb (mo0 _) | skip); (first | replace m1 := pw_cell_below hb m1 | replace m1 := pw_cell_below hb (mo1 _) | skip); (first | replace m2 := pw_cell_below hb m2 | replace m2 := pw_cell_below hb (mo2 _) | skip); (first | replace m3 := pw_cell_below hb m3 | replace m3 := pw_cell_below hb (mo3 _) | skip); (first | replace m4 := pw_cell_below hb m4 | replace m4 := pw_cell_below hb (mo4 _) | skip); (first | replace m5 := pw_cell_below hb m5 | replace m5 := pw_cell_below hb (mo5 _) | skip); (first | replace m6 := pw_cell_below hb m6 | replace m6 := pw_cell_below hb (mo6 _) | skip); (first | replace m7 := pw_cell_below hb m7 | replace m7 := pw_cell_below hb (mo7 _) | skip); (first | replace m8 := pw_cell_below hb m8 | replace m8 := pw_cell_below hb (mo8 _) | skip); (try clear mo0); (try have mo0 := fun o => (World.cell?_alloc_lt _ o _ (World.block_lt_of_cell? _ _ m0)).trans m0); (try clear mo1); (try have mo1 := fun o => (World.cell?_alloc_lt _ o _ (World.block_lt_of_cell? _ _ m1)).trans m1); (try clear mo2); (try have mo2 := fun o => (World.cell?_alloc_lt _ o _ (World.block_lt_of_cell? _ _ m2)).trans m2); (try clear mo3); (try have mo3 := fun o => (World.cell?_alloc_lt _ o _ (World.block_lt_of_cell? _ _ m3)).trans m3); (try clear mo4); (try have mo4 := fun o => (World.cell?_alloc_lt _ o _ (World.block_lt_of_cell? _ _ m4)).trans m4); (try clear mo5); (try have mo5 := fun o => (World.cell?_alloc_lt _ o _ (World.block_lt_of_cell? _ _ m5)).trans m5); (try clear mo6); (try have mo6 := fun o => (World.cell?_alloc_lt _ o _ (World.block_lt_of_cell? _ _ m6)).trans m6); (try clear mo7); (try have mo7 := fun o => (World.cell?_alloc_lt _ o _ (World.block_lt_of_cell? _ _ m7)).trans m7); (try clear mo8); (try have mo8 := fun o => (World.cell?_alloc_lt _ o _ (World.block_lt_of_cell? _ _ m8)).trans m8); replace HB := below_step (by repeat (first | exact HB | apply below_alloc | apply pw_below_drewN | apply below_drew1)) hb))
  go_ret
  exact ⟨rfl, by repeat (first | exact HB | apply below_alloc | apply pw_below_drewN | apply below_drew1)⟩
end Go.Proofs.Ytdcpccbhhoohkaa.A
end
section
namespace Go.Proofs.Ytdcpccbhhoohkaa.A
open Go.RowKit Go.Proofs.YtdcpccbhhoohkaaW.PrintWords Go.Proofs.YtdcpccbhhoohkaaW.PrintLast Go.Proofs.Ytdcpccbhhoohkaa.A
def laws_FnExactNewDesk.Pure : Prop := laws_FnExactNewDesk.f  = some true
end Go.Proofs.Ytdcpccbhhoohkaa.A
end
section
namespace Go.Proofs.Ytdcpccbhhoohkaa.A
theorem FnExactNewDesk : laws_FnExactNewDesk.Pure := rfl
end Go.Proofs.Ytdcpccbhhoohkaa.A
end
section
namespace Go.Proofs.Ytdcpccbhhoohkaa.Open
open Go.ChangeShapes Go.WideShapes Go.Deep Go.RowKit Go.Proofs.YtdcpccbhhoohkaaW.PrintWords
end Go.Proofs.Ytdcpccbhhoohkaa.Open
end
