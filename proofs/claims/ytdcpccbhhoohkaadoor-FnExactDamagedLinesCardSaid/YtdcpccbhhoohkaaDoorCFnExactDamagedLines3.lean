/- Part 4 of the proof of FnExactDamagedLinesCardSaid: the functions that the law runs as plain Lean functions, the contracts of their calls, and plain facts about them. Condition: none beyond each theorem's own hypotheses. -/
import Derived.Test.YtdcpccbhhoohkaaDoorCFnExactDamagedLines0
import Derived.Test.YtdcpccbhhoohkaaDoorCFnExactDamagedLines1
import Derived.Lib.IndexMore
import Derived.Deep.Slices
import Derived.Deep.Fields
import Derived.ChangeSame
import Derived.ProofKit
import Derived.Test.YtdcpccbhhoohkaaDoorVFnExactDamagedLinesWords
import Derived.Test.YtdcpccbhhoohkaaDoorVFnExactDamagedLinesLast
import Derived.Test.YtdcpccbhhoohkaaDoorVFnExactDamagedLinesTab
import Derived.Test.YtdcpccbhhoohkaaDoorVFnExactDamagedLinesFour
import Derived.Test.YtdcpccbhhoohkaaDoorVFnExactDamagedLinesQPut
import Derived.Test.YtdcpccbhhoohkaaDoorVFnExactDamagedLinesApart
import Derived.Test.YtdcpccbhhoohkaaDoorVFnExactDamagedLinesArr
import Derived.Test.YtdcpccbhhoohkaaDoorVFnExactDamagedLinesZeros
import Derived.Test.YtdcpccbhhoohkaaDoorVFnExactDamagedLinesFoot
import Derived.Test.YtdcpccbhhoohkaaDoorVFnExactDamagedLinesKept
import Derived.Test.YtdcpccbhhoohkaaDoorVFnExactDamagedLinesShare
import Derived.Test.YtdcpccbhhoohkaaDoorVFnExactDamagedLinesN
import Derived.Test.YtdcpccbhhoohkaaDoorVFnExactDamagedLinesFootNe
import Derived.Test.YtdcpccbhhoohkaaDoorVFnExactDamagedLinesAt
import Derived.Test.YtdcpccbhhoohkaaDoorVFnExactDamagedLinesEqStruct
import Derived.Test.YtdcpccbhhoohkaaDoorVFnExactDamagedLinesRepsOne
import Derived.Test.YtdcpccbhhoohkaaDoorVFnExactDamagedLinesInv
import Derived.Test.YtdcpccbhhoohkaaDoorVFnExactDamagedLinesInvWords
import Derived.Test.YtdcpccbhhoohkaaDoorVFnExactDamagedLinesGuard
import Derived.Test.YtdcpccbhhoohkaaDoorVFnExactDamagedLinesNEv
import Derived.Test.YtdcpccbhhoohkaaDoorVFnExactDamagedLinesMore
import Derived.Test.YtdcpccbhhoohkaaDoorCFnExactDamagedLines2
section
namespace Go.Proofs.YtdcpccbhhoohkaaDoor.A
open Go.RowKit Go.Proofs.YtdcpccbhhoohkaaDoorW.PrintWords Go.Proofs.YtdcpccbhhoohkaaDoorW.PrintLast
def wlen : List UInt8 → Nat
  | [] => 0
  | b :: l => if b = 32 then 0 else wlen l + 1
theorem wlen_le : ∀ l, wlen l ≤ l.length
  | [] => Nat.le_refl _
  | b :: l => by
    have := wlen_le l
    unfold wlen
    split
    · omega
    · rw [List.length_cons]
      omega
theorem ix_w : ∀ l : List UInt8, Go.Lib.index l [32] = if wlen l < l.length then (wlen l : Int) else -1
  | [] => by simp [Go.Lib.index, wlen]
  | b :: l => by
    have ih := ix_w l
    rw [ix_cons]
    unfold wlen
    by_cases h : b = 32
    · rw [if_pos h, if_pos h, if_pos (by simp)]
      rfl
    · rw [if_neg h, if_neg h, ih]
      by_cases h2 : wlen l < l.length
      · rw [if_pos h2, if_neg (by omega), if_pos (by rw [List.length_cons]; omega)]
        omega
      · rw [if_neg h2, if_pos rfl, if_neg (by rw [List.length_cons]; omega)]
theorem cut_w (l : List UInt8) : Go.Lib.cut l [32] = (l.take (wlen l), l.drop (wlen l + 1), decide (wlen l < l.length)) := by
  unfold Go.Lib.cut
  rw [ix_w]
  have hle := wlen_le l
  by_cases h : wlen l < l.length
  · rw [if_pos h]
    simp [h]
  · rw [if_neg h]
    have e1 : l.take (wlen l) = l := List.take_of_length_le (by omega)
    have e2 : l.drop (wlen l + 1) = [] := List.drop_eq_nil_of_le (by omega)
    simp [h, e1, e2]
def noB : ByteArray := ⟨#[]⟩
def restBlk (l : List UInt8) : Blk := ⟨mkS (l.take (wlen l)), mkS ((l.drop (wlen l + 1)).take (wlen (l.drop (wlen l + 1)))), mkS ((l.drop (wlen l + 1)).drop (wlen (l.drop (wlen l + 1)) + 1))⟩
def restOk (l : List UInt8) : Bool := decide (wlen (l.drop (wlen l + 1)) < (l.drop (wlen l + 1)).length) && blkOk (restBlk l)
def parseRest (l : List UInt8) : ByteArray × ByteArray × ByteArray × Int := if restOk l = true then ((restBlk l).f0, (restBlk l).f1, (restBlk l).f2, 0) else (noB, noB, noB, 9)
def parseL (s : ByteArray) : ByteArray × ByteArray × ByteArray × Int :=
  if s.size < 6 then (noB, noB, noB, 9) else if bt s 5 ≠ 32 then (noB, noB, noB, 9) else
  if (s.extract 0 5).toList = (fiveB (crcS (s.extract 6 s.size))).toList then parseRest (s.extract 6 s.size).data.toList else (noB, noB, noB, 10)
theorem l29Parse_l0 (s : ByteArray) (hs : s.size ≤ 1048576) (r : ByteArray × ByteArray × ByteArray × Int) : ∀ (d i : Nat), i + d = s.size →
    Ev (fun k => spec_l29Parse.j2 k s ((i + wlen (s.data.toList.drop i) : Nat) : Int)) r → Ev (fun k => spec_l29Parse.l0 k s (i : Int)) r := by
  intro d
  induction d with
  | zero =>
    intro i hi h
    refine Ev.succ ?_
    simp only [spec_l29Parse.l0]
    rw [List.drop_eq_nil_of_le (by rw [ba_size]; omega)] at h
    exact Ev.neg (by omega) h
  | succ d ih =>
    intro i hi h
    have hlt : i < s.size := by omega
    rw [drop_cons s i hlt] at h
    unfold wlen at h
    refine Ev.succ ?_
    simp only [spec_l29Parse.l0, bt_at_nat s i hlt, w64_succ hlt (by omega : s.size ≤ _)]
    refine Ev.pos (by omega) (Ev.pos (by omega) ?_)
    by_cases hc : s[i] = 32
    · rw [if_pos hc] at h
      exact Ev.pos (by rw [hc]; rfl) h
    · rw [if_neg hc] at h
      refine Ev.neg (fun e => hc (UInt8.toNat_inj.1 (by have : (32 : UInt8).toNat = 32 := rfl; omega))) (ih (i + 1) (by omega) ?_)
      rw [show i + 1 + wlen (s.data.toList.drop (i + 1)) = i + (wlen (s.data.toList.drop (i + 1)) + 1) by omega]
      exact h
theorem l29Parse_l1 (s : ByteArray) (hs : s.size ≤ 1048576) (p : Int) (r : ByteArray × ByteArray × ByteArray × Int) : ∀ (d i : Nat), s.size ≤ i + d → i ≤ s.size + 1 →
    Ev (fun k => spec_l29Parse.j4 k s p ((i + wlen (s.data.toList.drop i) : Nat) : Int)) r → Ev (fun k => spec_l29Parse.l1 k s p (i : Int)) r := by
  intro d
  induction d with
  | zero =>
    intro i hi _ h
    refine Ev.succ ?_
    simp only [spec_l29Parse.l1]
    rw [List.drop_eq_nil_of_le (by rw [ba_size]; omega)] at h
    exact Ev.neg (by omega) h
  | succ d ih =>
    intro i hi hi2 h
    by_cases hlt : i < s.size
    · rw [drop_cons s i hlt] at h
      unfold wlen at h
      refine Ev.succ ?_
      simp only [spec_l29Parse.l1, bt_at_nat s i hlt, w64_succ hlt (by omega : s.size ≤ _)]
      refine Ev.pos (by omega) (Ev.pos (by omega) ?_)
      by_cases hc : s[i] = 32
      · rw [if_pos hc] at h
        exact Ev.pos (by rw [hc]; rfl) h
      · rw [if_neg hc] at h
        refine Ev.neg (fun e => hc (UInt8.toNat_inj.1 (by have : (32 : UInt8).toNat = 32 := rfl; omega))) (ih (i + 1) (by omega) (by omega) ?_)
        rw [show i + 1 + wlen (s.data.toList.drop (i + 1)) = i + (wlen (s.data.toList.drop (i + 1)) + 1) by omega]
        exact h
    · refine Ev.succ ?_
      simp only [spec_l29Parse.l1]
      rw [List.drop_eq_nil_of_le (by rw [ba_size]; omega)] at h
      exact Ev.neg (by omega) h
theorem parseRest_ev (s : ByteArray) (hs : s.size ≤ 1048576) : Ev (fun k => spec_l29Parse.l0 k s 0) (parseRest s.data.toList) := by
  refine l29Parse_l0 s hs _ s.size 0 (by omega) (Ev.succ ?_)
  simp only [spec_l29Parse.j2, List.drop_zero, Nat.zero_add]
  have hle := wlen_le s.data.toList
  rw [ba_size] at hle
  have hlen : s.data.toList.length = s.size := ba_size s
  unfold parseRest restOk restBlk
  revert hlen
  generalize hl : s.data.toList = l at hle ⊢
  intro hlen
  generalize hi : wlen l = i at hle ⊢
  have hw : wrap64 ((i : Int) + 1) = ((i + 1 : Nat) : Int) := by rw [w64 (by omega) (by omega)]; omega
  rw [hw]
  refine l29Parse_l1 s hs _ _ s.size (i + 1) (by omega) (by omega) (Ev.succ ?_)
  simp only [spec_l29Parse.j4, hw]
  rw [hl]
  have hj := wlen_le (l.drop (i + 1))
  have hdl : (l.drop (i + 1)).length = s.size - (i + 1) := by rw [List.length_drop, hlen]
  generalize hjj : wlen (l.drop (i + 1)) = j at hj ⊢
  by_cases hlt : j < (l.drop (i + 1)).length
  · have hw2 : wrap64 (((i + 1 + j : Nat) : Int) + 1) = ((i + 1 + j + 1 : Nat) : Int) := by rw [w64 (by omega) (by omega)]; omega
    simp only [hw2, Int.toNat_natCast]
    have e1 : s.extract 0 i = mkS (l.take i) := by rw [ext_list, hl, List.drop_zero, Nat.sub_zero]
    have e2 : s.extract (i + 1) (i + 1 + j) = mkS ((l.drop (i + 1)).take j) := by rw [ext_list, hl, Nat.add_sub_cancel_left]
    have e3 : s.extract (i + 1 + j + 1) s.size = mkS ((l.drop (i + 1)).drop (j + 1)) := by
      rw [ext_list, hl, List.drop_drop, show i + 1 + (j + 1) = i + 1 + j + 1 by omega, List.take_of_length_le (by rw [List.length_drop, hlen]; exact Nat.le_refl _)]
    rw [e1, e2, e3]
    have hf : BFit (⟨mkS (l.take i), mkS ((l.drop (i + 1)).take j), mkS ((l.drop (i + 1)).drop (j + 1))⟩ : Blk) := by
      refine ⟨?_, ?_, ?_⟩ <;> (rw [mkS_size]; simp only [List.length_take, List.length_drop]; omega)
    have h1 := l29One_ev [(⟨mkS (l.take i), mkS ((l.drop (i + 1)).take j), mkS ((l.drop (i + 1)).drop (j + 1))⟩ : Blk)] 0 (by simp) hf
    refine Ev.neg (by omega) (Ev.pos (by omega) (Ev.pos (by omega) (Ev.pos (by omega) (Ev.pos (by omega) (Ev.pos (by omega) (Ev.pos (by omega) (Ev.pos (by omega) (Ev.bind h1 ?_))))))))
    cases hb : blkOk (⟨mkS (l.take i), mkS ((l.drop (i + 1)).take j), mkS ((l.drop (i + 1)).drop (j + 1))⟩ : Blk) with
    | true => exact Ev.pos hb (Ev.to (Ev.now _) (by rw [if_pos (by rw [decide_eq_true hlt]; rfl)]))
    | false => exact Ev.neg (fun h => Bool.noConfusion (hb.symm.trans h)) (Ev.to (Ev.now _) (by rw [if_neg (by simp)]; rfl))
  · refine Ev.pos (by omega) (Ev.to (Ev.now _) ?_)
    simp only [hlt, decide_false, Bool.false_and]
    rfl
theorem l29Parse_ev (s : ByteArray) (hs : s.size ≤ 1048576) : Ev (fun k => spec_l29Parse.f k s) (parseL s) := by
  simp only [spec_l29Parse.f]
  unfold parseL
  by_cases h6 : s.size < 6
  · rw [if_pos h6]
    refine Ev.pos (by omega) (Ev.succ ?_)
    simp only [spec_l29Parse.j0]
    exact Ev.pos trivial (Ev.now _)
  · rw [if_neg h6]
    refine Ev.neg (by omega) (Ev.pos (by omega) (Ev.succ ?_))
    simp only [spec_l29Parse.j0]
    by_cases h5 : bt s 5 = 32
    · rw [if_neg (fun h => h h5)]
      have hes : (s.extract 6 s.size).size ≤ 1048576 := by rw [ByteArray.size_extract]; omega
      refine Ev.neg (by simp [h5]) (Ev.pos (by omega) (Ev.pos (by omega) (Ev.pos (by omega) (Ev.bind (l01Crc_ev _ (by omega)) (Ev.bind (l29Five_ev _ (crcS_lt _)) ?_)))))
      by_cases he : (s.extract 0 5).toList = (fiveB (crcS (s.extract 6 s.size))).toList
      · rw [if_pos he]
        exact Ev.pos he (parseRest_ev _ hes)
      · rw [if_neg he]
        exact Ev.neg he (Ev.now _)
    · rw [if_pos h5]
      exact Ev.pos (by simpa using h5) (Ev.now _)
theorem Cut_eq (l : List UInt8) (hl : l.length ≤ 1048576) : strings_Cut.f (mkS l) (⟨#[32]⟩ : ByteArray) = some (mkS (l.take (wlen l)), mkS (l.drop (wlen l + 1)), decide (wlen l < l.length)) := by
  unfold strings_Cut.f
  rw [if_pos (by rw [mkS_size]; omega), mkS_toList]
  have : (⟨#[32]⟩ : ByteArray).data.toList = [32] := rfl
  rw [this, cut_w]
  rfl
theorem blockOf_ev (s : ByteArray) (hs : s.size ≤ 1048576) : Ev (fun k => impl_blockOf.f k s) (parseL s) := by
  simp only [impl_blockOf.f]
  unfold parseL
  by_cases h6 : s.size < 6
  · rw [if_pos h6]
    refine Ev.pos (by omega) (Ev.succ ?_)
    simp only [impl_blockOf.j0]
    exact Ev.pos trivial (Ev.now _)
  · rw [if_neg h6]
    refine Ev.neg (by omega) (Ev.pos (by omega) (Ev.succ ?_))
    simp only [impl_blockOf.j0]
    by_cases h5 : bt s 5 = 32
    · rw [if_neg (fun h => h h5)]
      have hes : (s.extract 6 s.size).size ≤ 1048576 := by rw [ByteArray.size_extract]; omega
      refine Ev.neg (by simp [h5]) (Ev.pos (by omega) (Ev.pos (by omega) (Ev.pos (by omega) (Ev.bind (checkText_ev _ (by omega)) ?_))))
      by_cases he : (s.extract 0 5).toList = (fiveB (crcS (s.extract 6 s.size))).toList
      · rw [if_pos he]
        refine Ev.pos he ?_
        generalize hr : s.extract 6 s.size = r at hes ⊢
        clear he hr
        have hm : r = mkS r.data.toList := (mkS_data r).symm
        have hlr : r.data.toList.length = r.size := ba_size r
        rw [hm]
        simp only [mkS_toList]
        generalize r.data.toList = l at hlr ⊢
        have hl : l.length ≤ 1048576 := by omega
        have c1 := Cut_eq l hl
        have c2 := Cut_eq (l.drop (wlen l + 1)) (by rw [List.length_drop]; omega)
        refine Ev.bind (Ev.const c1) ?_
        dsimp only
        refine Ev.bind (Ev.const c2) ?_
        dsimp only
        unfold parseRest restOk
        have hf : BFit (restBlk l) := by
          refine ⟨?_, ?_, ?_⟩ <;> (unfold restBlk; simp only [mkS_size, List.length_take, List.length_drop]; omega)
        have hv := ValidBlock_ev (restBlk l) hf
        by_cases hlt : wlen (l.drop (wlen l + 1)) < (l.drop (wlen l + 1)).length
        · refine Ev.pos (decide_eq_true hlt) (Ev.bind hv ?_)
          cases hb : blkOk (restBlk l) with
          | true => exact Ev.pos rfl (Ev.to (Ev.now _) (by rw [if_pos (by rw [decide_eq_true hlt]; rfl)]; rfl))
          | false => exact Ev.neg (by decide) (Ev.to (Ev.now _) (by rw [if_neg (by simp)]; rfl))
        · refine Ev.neg (fun h => hlt (of_decide_eq_true h)) (Ev.to (Ev.now _) ?_)
          simp only [hlt, decide_false, Bool.false_and]
          rfl
      · rw [if_neg he]
        exact Ev.neg he (Ev.now _)
    · rw [if_pos h5]
      exact Ev.pos (by simpa using h5) (Ev.now _)
end Go.Proofs.YtdcpccbhhoohkaaDoor.A
end
section
namespace Go.Proofs.YtdcpccbhhoohkaaDoor.A
open Go.RowKit Go.Proofs.YtdcpccbhhoohkaaDoorW.PrintWords Go.Proofs.YtdcpccbhhoohkaaDoorW.PrintLast
theorem l29Lines_ev (s : ByteArray) (hs : s.size ≤ 1048576) (L : List ByteArray) (hL : L = (spl 10 s.data.toList).map mkS) (n : Nat) (hn : L.length = n + 1) :
    Ev (fun k => spec_l29Lines.f k s) (L.take n, decide ((L[n]'(by omega)).toList = [])) := by
  have h := l01Split_ev s 10 hs
  rw [← hL] at h
  simp only [spec_l29Lines.f]
  refine Ev.bind h ?_
  refine Ev.pos (by omega) (Ev.to (Ev.now _) ?_)
  rw [show L.length - 1 = n by omega, rdOf_at _ L n (by omega)]
theorem Damaged_l0 (L : List ByteArray) (n : Nat) (hn : L.length = n + 1) (hl : n ≤ 1048576) (hz : ∀ z ∈ L, z.size ≤ 1048576) : ∀ (d i : Nat) (acc : List Int), i + d = n → 1 ≤ i → acc.length ≤ i →
    ∃ r : List Int, r.length ≤ 1048578 ∧ Ev (fun k => spec_DamagedLines.l0 k (L.take n) (decide ((L[n]'(by omega)).toList = [])) acc (i : Int)) r ∧ Ev (fun k => impl_DamagedLines.l0 k L acc L (L.length : Int) (i : Int)) r := by
  have hlt1 : (L.take n).length = n := by rw [List.length_take]; omega
  have hwn : wrap64 ((L.length : Int) - 1) = (n : Int) := by rw [w64 (by omega) (by omega)]; omega
  intro d
  induction d with
  | zero =>
    intro i acc hi h1 ha
    obtain rfl : i = n := by omega
    have hb := blockOf_ev (L[i]'(by omega)) (hz _ (List.getElem_mem _))
    have hw : wrap64 ((i : Int) + 1) = ((i + 1 : Nat) : Int) := by rw [w64 (by omega) (by omega)]; omega
    by_cases he : (L[i]'(by omega)).toList = []
    · refine ⟨acc, by omega, Ev.succ ?_, Ev.succ ?_⟩
      · simp only [spec_DamagedLines.l0, hlt1]
        exact Ev.neg (by omega) (Ev.pos (decide_eq_true he) (Ev.now _))
      · simp only [impl_DamagedLines.l0, hwn, rdOf_at _ L i (by omega), hw]
        refine Ev.pos (by omega) (Ev.pos (by omega) (Ev.pos (by omega) (Ev.bind hb (Ev.pos trivial (Ev.pos he (Ev.pos trivial (Ev.succ ?_)))))))
        simp only [impl_DamagedLines.l0]
        exact Ev.neg (by omega) (Ev.now _)
    · refine ⟨acc ++ [((i + 1 : Nat) : Int)], by simp; omega, Ev.succ ?_, Ev.succ ?_⟩
      · simp only [spec_DamagedLines.l0, hlt1, hw]
        exact Ev.neg (by omega) (Ev.neg (by simpa using he) (Ev.pos (by omega) (Ev.now _)))
      · simp only [impl_DamagedLines.l0, hwn, rdOf_at _ L i (by omega), hw]
        refine Ev.pos (by omega) (Ev.pos (by omega) (Ev.pos (by omega) (Ev.bind hb (Ev.pos trivial (Ev.neg he (Ev.pos (by omega) (Ev.succ ?_)))))))
        simp only [impl_DamagedLines.l0]
        exact Ev.neg (by omega) (Ev.now _)
  | succ d ih =>
    intro i acc hi h1 ha
    have hlt : i < n := by omega
    have hzi := hz (L[i]'(by omega)) (List.getElem_mem _)
    have hb := blockOf_ev (L[i]'(by omega)) hzi
    have hp := l29Parse_ev (L[i]'(by omega)) hzi
    have hw : wrap64 ((i : Int) + 1) = ((i + 1 : Nat) : Int) := by rw [w64 (by omega) (by omega)]; omega
    have hrd : rdOf ByteArray.empty (L.take n) (i : Int) = L[i]'(by omega) := by
      rw [rdOf_at _ _ _ (by omega), List.getElem_take]
    generalize parseL (L[i]'(by omega)) = p at hb hp
    by_cases hc : p.2.2.2 = 0
    · obtain ⟨r, hr, e1, e2⟩ := ih (i + 1) acc (by omega) (by omega) (by omega)
      refine ⟨r, hr, Ev.succ ?_, Ev.succ ?_⟩
      · simp only [spec_DamagedLines.l0, hlt1, hrd, hw]
        exact Ev.pos (by omega) (Ev.pos (by omega) (Ev.bind hp (Ev.pos hc e1)))
      · simp only [impl_DamagedLines.l0, hwn, rdOf_at _ L i (by omega), hw]
        exact Ev.pos (by omega) (Ev.pos (by omega) (Ev.pos (by omega) (Ev.bind hb (Ev.neg (by omega) (Ev.neg (by omega) (Ev.pos (by omega) (Ev.pos hc e2)))))))
    · obtain ⟨r, hr, e1, e2⟩ := ih (i + 1) (acc ++ [((i + 1 : Nat) : Int)]) (by omega) (by omega) (by simp; omega)
      refine ⟨r, hr, Ev.succ ?_, Ev.succ ?_⟩
      · simp only [spec_DamagedLines.l0, hlt1, hrd, hw]
        exact Ev.pos (by omega) (Ev.pos (by omega) (Ev.bind hp (Ev.neg hc (Ev.pos (by omega) e1))))
      · simp only [impl_DamagedLines.l0, hwn, rdOf_at _ L i (by omega), hw]
        exact Ev.pos (by omega) (Ev.pos (by omega) (Ev.pos (by omega) (Ev.bind hb (Ev.neg (by omega) (Ev.neg (by omega) (Ev.pos (by omega) (Ev.neg hc (Ev.pos (by omega) e2))))))))
theorem DamagedLines_ev (s : ByteArray) (hs : s.size ≤ 1048576) : ∃ r : List Int, r.length ≤ 1048578 ∧ Ev (fun k => spec_DamagedLines.f k s) r ∧ Ev (fun k => impl_DamagedLines.f k s) r := by
  have him := Split_ev 10 s hs
  have hlen := spl_len 10 s.data.toList
  have hpart := spl_part 10 s.data.toList
  have hne := spl_ne 10 s.data.toList
  rw [ba_size] at hlen hpart
  obtain ⟨L, hL⟩ : ∃ L, L = (spl 10 s.data.toList).map mkS := ⟨_, rfl⟩
  have hLl : L.length = (spl 10 s.data.toList).length := by rw [hL, List.length_map]
  have h0 : 0 < (spl 10 s.data.toList).length := List.length_pos_iff.2 hne
  obtain ⟨n, hn⟩ : ∃ n, L.length = n + 1 := ⟨L.length - 1, by omega⟩
  have hz : ∀ z ∈ L, z.size ≤ 1048576 := by
    intro z hz
    rw [hL] at hz
    obtain ⟨p, hp, rfl⟩ := List.mem_map.1 hz
    rw [mkS_size]
    exact Nat.le_trans (hpart p hp) hs
  have hsp := l29Lines_ev s hs L hL n hn
  rw [← hL] at him
  have hwn : wrap64 ((L.length : Int) - 1) = (n : Int) := by rw [w64 (by omega) (by omega)]; omega
  have hb := blockOf_ev (L[0]'(by omega)) (hz _ (List.getElem_mem _))
  have hrd0 : rdOf ByteArray.empty L 0 = L[0]'(by omega) := rdOf_at _ L 0 (by omega)
  have hw0 : wrap64 ((0 : Int) + 1) = ((1 : Nat) : Int) := by rw [w64 (by omega) (by omega)]; rfl
  simp only [spec_DamagedLines.f, impl_DamagedLines.f, him, Option.bind_some]
  by_cases hn0 : n = 0
  · subst hn0
    have ht : L.take 0 = [] := rfl
    by_cases he : (L[0]'(by omega)).toList = []
    · refine ⟨[], by simp, Ev.bind hsp (Ev.succ ?_), Ev.succ ?_⟩
      · simp only [spec_DamagedLines.l0, ht]
        exact Ev.neg (by simp) (Ev.pos (decide_eq_true he) (Ev.now _))
      · simp only [impl_DamagedLines.l0, hwn, hrd0, hw0]
        refine Ev.pos (by omega) (Ev.pos (by omega) (Ev.pos (by omega) (Ev.bind hb (Ev.pos rfl (Ev.pos he (Ev.pos rfl (Ev.succ ?_)))))))
        simp only [impl_DamagedLines.l0]
        exact Ev.neg (by omega) (Ev.now _)
    · refine ⟨[1], by simp, Ev.bind hsp (Ev.succ ?_), Ev.succ ?_⟩
      · simp only [spec_DamagedLines.l0, ht]
        have e : wrap64 ((([] : List ByteArray).length : Int) + 1) = 1 := by rw [w64 (by simp) (by simp)]; rfl
        rw [e]
        exact Ev.neg (by simp) (Ev.neg (by simpa using he) (Ev.pos (by simp) (Ev.now _)))
      · simp only [impl_DamagedLines.l0, hwn, hrd0, hw0]
        refine Ev.pos (by omega) (Ev.pos (by omega) (Ev.pos (by omega) (Ev.bind hb (Ev.pos rfl (Ev.neg he (Ev.pos (by simp) (Ev.succ ?_)))))))
        simp only [impl_DamagedLines.l0]
        exact Ev.neg (by omega) (Ev.now _)
  · obtain ⟨r, hr, e1, e2⟩ := Damaged_l0 L n hn (by omega) hz (n - 1) 1 [] (by omega) (by omega) (by simp)
    refine ⟨r, hr, Ev.bind hsp e1, Ev.succ ?_⟩
    simp only [impl_DamagedLines.l0, hwn, hrd0, hw0]
    exact Ev.pos (by omega) (Ev.pos (by omega) (Ev.pos (by omega) (Ev.bind hb (Ev.neg (by omega) (Ev.neg (by omega) (Ev.neg (by omega) e2))))))
theorem FnExactDamagedLines : laws_FnExactDamagedLines.Pure := by
  intro s _
  refine Ev.rounds (g := fun k => laws_FnExactDamagedLines.f k s) ?_
  simp only [laws_FnExactDamagedLines.f]
  by_cases hbig : (s.size : Int) > 1048576
  · exact Ev.pos hbig (Ev.now _)
  refine Ev.neg hbig ?_
  obtain ⟨r, hr, h1, h2⟩ := DamagedLines_ev s (by omega)
  have he := eqInt64S_ev r (by omega)
  have hm := markInt64S_ev r (by omega)
  have hh := heldInt64S_ev r.length (by omega)
  exact Ev.bind h1 (Ev.bind h2 (Ev.bind he (Ev.pos rfl (Ev.bind hm (Ev.bind hh (Ev.neg (by omega) (Ev.pos rfl (Ev.bind h2 (Ev.bind he (Ev.pos rfl (Ev.bind hh (Ev.neg (by omega) (Ev.pos rfl (Ev.now _))))))))))))))
end Go.Proofs.YtdcpccbhhoohkaaDoor.A
end
section
namespace Go.Proofs.YtdcpccbhhoohkaaDoor.Open
open Go.ChangeShapes Go.WideShapes Go.Deep Go.RowKit Go.Proofs.YtdcpccbhhoohkaaDoorW.PrintWords
end Go.Proofs.YtdcpccbhhoohkaaDoor.Open
end
