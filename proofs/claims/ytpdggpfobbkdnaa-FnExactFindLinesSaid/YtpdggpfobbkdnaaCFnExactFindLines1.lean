/- Part 2 of the proof of FnExactFindLinesSaid: the functions that the law runs as plain Lean functions, the contracts of their calls, and plain facts about them. Condition: none beyond each theorem's own hypotheses. -/
import Derived.Lib.IndexMore
import Derived.Lib.RabinKarpLaws
import Derived.Deep.Slices
import Derived.Deep.Fields
import Derived.ChangeSame
import Derived.ProofKit
import Derived.Test.YtpdggpfobbkdnaaWWords
import Derived.Test.YtpdggpfobbkdnaaWLast
import Derived.Test.YtpdggpfobbkdnaaWTab
import Derived.Test.YtpdggpfobbkdnaaWFour
import Derived.Test.YtpdggpfobbkdnaaWQPut
import Derived.Test.YtpdggpfobbkdnaaWApart
import Derived.Test.YtpdggpfobbkdnaaWArr
import Derived.Test.YtpdggpfobbkdnaaWZeros
import Derived.Test.YtpdggpfobbkdnaaWFoot
import Derived.Test.YtpdggpfobbkdnaaWKept
import Derived.Test.YtpdggpfobbkdnaaWShare
import Derived.Test.YtpdggpfobbkdnaaWN
import Derived.Test.YtpdggpfobbkdnaaWFootNe
import Derived.Test.YtpdggpfobbkdnaaWAt
import Derived.Test.YtpdggpfobbkdnaaWEqStruct
import Derived.Test.YtpdggpfobbkdnaaWRepsOne
import Derived.Test.YtpdggpfobbkdnaaWInv
import Derived.Test.YtpdggpfobbkdnaaWInvWords
import Derived.Test.YtpdggpfobbkdnaaWGuard
import Derived.Test.YtpdggpfobbkdnaaWNEv
import Derived.Test.YtpdggpfobbkdnaaWMore
import Derived.Test.YtpdggpfobbkdnaaCFnExactFindLines0
namespace Go.Proofs.Ytpdggpfobbkdnaa.A
open Go.RowKit Go.Proofs.YtpdggpfobbkdnaaW.PrintWords Go.Proofs.YtpdggpfobbkdnaaW.PrintLast
/-- Each byte from place i on is from low to high. -/
def okBytes (low high : Nat) (s : ByteArray) : Bool := s.data.toList.all fun c => decide (low ≤ c.toNat) && decide (c.toNat ≤ high)
def okFrom (low high : Nat) (s : ByteArray) (i : Nat) : Bool := (s.data.toList.drop i).all fun c => decide (low ≤ c.toNat) && decide (c.toNat ≤ high)
theorem okFrom_end (low high : Nat) (s : ByteArray) : okFrom low high s s.size = true := by
  unfold okFrom
  rw [List.drop_of_length_le (by rw [ba_size]; omega)]
  rfl
theorem okFrom_succ (low high : Nat) (s : ByteArray) (i : Nat) (h : i < s.size) : okFrom low high s i = ((decide (low ≤ s[i].toNat) && decide (s[i].toNat ≤ high)) && okFrom low high s (i + 1)) := by
  unfold okFrom
  have h' : i < s.data.toList.length := by rw [ba_size]; exact h
  rw [List.drop_eq_getElem_cons h', List.all_cons]
  rfl
theorem bytesWithin_l0 (s : ByteArray) (low high : Nat) (hs : s.size ≤ 9223372036854775807) : ∀ (d i : Nat), i + d = s.size → Ev (fun k => impl_bytesWithin.l0 k s (low : Int) (high : Int) (s.size : Int) i) (okFrom low high s i) := by
  intro d
  induction d with
  | zero =>
    intro i hi
    refine Ev.succ ?_
    simp only [impl_bytesWithin.l0]
    obtain rfl : i = s.size := by omega
    rw [okFrom_end]
    exact Ev.neg (by omega) (Ev.now _)
  | succ d ih =>
    intro i hi
    have hlt : i < s.size := by omega
    refine Ev.succ ?_
    simp only [impl_bytesWithin.l0, bt_at_nat s i hlt, w64_succ hlt hs]
    rw [okFrom_succ _ _ _ _ hlt]
    refine Ev.pos (by omega) (Ev.pos (by omega) (Ev.pos (by omega) ?_))
    by_cases h1 : (s[i].toNat : Int) < (low : Int)
    · exact Ev.pos h1 (Ev.to (Ev.now _) (by simp; intro h; omega))
    · by_cases h2 : (s[i].toNat : Int) > (high : Int)
      · exact Ev.neg h1 (Ev.pos h2 (Ev.to (Ev.now _) (by simp; intro h; omega)))
      · refine Ev.neg h1 (Ev.neg h2 (Ev.to (ih (i + 1) (by omega)) ?_))
        rw [decide_eq_true (by omega : low ≤ s[i].toNat), decide_eq_true (by omega : s[i].toNat ≤ high)]
        rfl
theorem bytesWithin_ev (s : ByteArray) (low high : Nat) (hs : s.size ≤ 9223372036854775807) : Ev (fun k => impl_bytesWithin.f k s (low : Int) (high : Int)) (okBytes low high s) := by
  simp only [impl_bytesWithin.f]
  exact bytesWithin_l0 s low high hs s.size 0 (by omega)
/-- Is it a line of a report. -/
def isLine (s : ByteArray) : Bool := decide (s.size ≤ 100) && okBytes 32 126 s
theorem lineValid_ev (s : ByteArray) (hs : s.size ≤ 9223372036854775807) : Ev (fun k => impl_lineValid.f k s) (isLine s) := by
  simp only [impl_lineValid.f, isLine]
  by_cases h : (s.size : Int) ≤ 100
  · refine Ev.pos h (Ev.bind (bytesWithin_ev s 32 126 hs) (Ev.to (Ev.now _) ?_))
    rw [decide_eq_true (by omega : s.size ≤ 100)]
    rfl
  · refine Ev.neg h (Ev.to (Ev.now _) ?_)
    rw [decide_eq_false (by omega : ¬ s.size ≤ 100)]
    rfl
theorem l30Line_l0 (s : ByteArray) (hs : s.size ≤ 9223372036854775807) : ∀ (d i : Nat), i + d = s.size → Ev (fun k => spec_l30Line.l0 k s i) (decide (s.size ≤ 100) && okFrom 32 126 s i) := by
  intro d
  induction d with
  | zero =>
    intro i hi
    refine Ev.succ ?_
    simp only [spec_l30Line.l0]
    obtain rfl : i = s.size := by omega
    rw [okFrom_end, Bool.and_true]
    exact Ev.neg (by omega) (Ev.to (Ev.now _) (by simp; try omega))
  | succ d ih =>
    intro i hi
    have hlt : i < s.size := by omega
    refine Ev.succ ?_
    simp only [spec_l30Line.l0, bt_at_nat s i hlt, w64_succ hlt hs]
    rw [okFrom_succ _ _ _ _ hlt]
    refine Ev.pos (by omega) (Ev.pos (by omega) ?_)
    by_cases h1 : (s[i].toNat : Int) < 32
    · exact Ev.pos h1 (Ev.to (Ev.now _) (by simp; intros; omega))
    · by_cases h2 : (s[i].toNat : Int) > 126
      · exact Ev.neg h1 (Ev.pos h2 (Ev.to (Ev.now _) (by simp; intros; omega)))
      · refine Ev.neg h1 (Ev.neg h2 (Ev.to (ih (i + 1) (by omega)) ?_))
        rw [decide_eq_true (by omega : 32 ≤ s[i].toNat), decide_eq_true (by omega : s[i].toNat ≤ 126)]
        rfl
theorem l30Line_ev (s : ByteArray) (hs : s.size ≤ 9223372036854775807) : Ev (fun k => spec_l30Line.f k s) (isLine s) := by
  simp only [spec_l30Line.f]
  exact l30Line_l0 s hs s.size 0 (by omega)
/-- Are lines a report. -/
def isReport (l : List ByteArray) : Bool := decide (l.length ≤ 200) && l.all isLine
theorem l30Ok_l0 (l : List ByteArray) (hl : l.length ≤ 9223372036854775807) (hs : ∀ z ∈ l, z.size ≤ 9223372036854775807) : ∀ (d i : Nat), i + d = l.length →
    Ev (fun k => spec_l30Ok.l0 k l i) (decide (l.length ≤ 200) && (l.drop i).all isLine) := by
  intro d
  induction d with
  | zero =>
    intro i hi
    refine Ev.succ ?_
    simp only [spec_l30Ok.l0]
    rw [List.drop_of_length_le (by omega)]
    exact Ev.neg (by omega) (Ev.to (Ev.now _) (by simp; try omega))
  | succ d ih =>
    intro i hi
    have hlt : i < l.length := by omega
    refine Ev.succ ?_
    simp only [spec_l30Ok.l0, rdOf_at _ l i hlt, w64_succ hlt hl]
    rw [List.drop_eq_getElem_cons hlt, List.all_cons]
    refine Ev.pos (by omega) (Ev.pos (by omega) (Ev.bind (l30Line_ev l[i] (hs _ (List.getElem_mem hlt))) ?_))
    cases h : isLine l[i] with
    | true => exact Ev.pos rfl (ih (i + 1) (by omega))
    | false => exact Ev.neg (by decide) (Ev.to (Ev.now _) (by simp))
theorem l30Ok_ev (l : List ByteArray) (hl : l.length ≤ 9223372036854775807) (hs : ∀ z ∈ l, z.size ≤ 9223372036854775807) : Ev (fun k => spec_l30Ok.f k l) (isReport l) := by
  simp only [spec_l30Ok.f]
  exact l30Ok_l0 l hl hs l.length 0 (by omega)
theorem ValidReport_l0 (l : List ByteArray) (hl : l.length ≤ 9223372036854775807) (hs : ∀ z ∈ l, z.size ≤ 9223372036854775807) : ∀ (d i : Nat), i + d = l.length →
    Ev (fun k => impl_ValidReport.l0 k l (l.length : Int) i) ((l.drop i).all isLine) := by
  intro d
  induction d with
  | zero =>
    intro i hi
    refine Ev.succ ?_
    simp only [impl_ValidReport.l0]
    rw [List.drop_of_length_le (by omega)]
    exact Ev.neg (by omega) (Ev.now _)
  | succ d ih =>
    intro i hi
    have hlt : i < l.length := by omega
    refine Ev.succ ?_
    simp only [impl_ValidReport.l0, rdOf_at _ l i hlt, w64_succ hlt hl]
    rw [List.drop_eq_getElem_cons hlt, List.all_cons]
    refine Ev.pos (by omega) (Ev.pos (by omega) (Ev.pos (by omega) (Ev.bind (lineValid_ev l[i] (hs _ (List.getElem_mem hlt))) ?_)))
    cases h : isLine l[i] with
    | true => exact Ev.pos rfl (ih (i + 1) (by omega))
    | false => exact Ev.neg (by decide) (Ev.to (Ev.now _) (by simp))
theorem ValidReport_ev (l : List ByteArray) (hl : l.length ≤ 9223372036854775807) (hs : ∀ z ∈ l, z.size ≤ 9223372036854775807) : Ev (fun k => impl_ValidReport.f k l) (isReport l) := by
  simp only [impl_ValidReport.f, isReport]
  by_cases h : (l.length : Int) > 200
  · refine Ev.pos h (Ev.to (Ev.now _) ?_)
    rw [decide_eq_false (by omega : ¬ l.length ≤ 200)]
    rfl
  · refine Ev.neg h (Ev.to (ValidReport_l0 l hl hs l.length 0 (by omega)) ?_)
    rw [decide_eq_true (by omega : l.length ≤ 200)]
    rfl
end Go.Proofs.Ytpdggpfobbkdnaa.A
namespace Go.Proofs.Ytpdggpfobbkdnaa.A
open Go.RowKit Go.Proofs.YtpdggpfobbkdnaaW.PrintWords Go.Proofs.YtpdggpfobbkdnaaW.PrintLast
theorem extract_list (s : ByteArray) (a b : Nat) : (s.extract a b).toList = (s.data.toList.drop a).take (b - a) := Go.Proofs.ext_win s a b
theorem occAt_iff (s w : ByteArray) (i : Nat) : (s.extract i (i + w.size)).toList = w.toList ↔ Go.Lib.occAt s.data.toList w.data.toList i = true := by
  rw [extract_list, toList_eq, Go.Lib.occAt, List.isPrefixOf_iff_prefix, List.prefix_iff_eq_take, ba_size, Nat.add_sub_cancel_left]
  exact eq_comm
theorem l30Has_l0 (s w : ByteArray) (hs : s.size ≤ 1048576) (hw : w.size ≤ 1048576) : ∀ (d i : Nat), i + d = s.size + 1 → (∀ j, j < i → Go.Lib.occAt s.data.toList w.data.toList j = false) →
    Ev (fun k => spec_l30Has.l0 k s w i) (Go.Lib.contains s.data.toList w.data.toList) := by
  intro d
  induction d with
  | zero =>
    intro i hi hno
    refine Ev.succ ?_
    simp only [spec_l30Has.l0]
    refine Ev.neg (by rw [w64 (by omega) (by omega)]; omega) (Ev.to (Ev.now _) ?_)
    unfold Go.Lib.contains
    rw [Go.Lib.index_none fun j hj => hno j (by rw [ba_size] at hj; omega)]
    rfl
  | succ d ih =>
    intro i hi hno
    refine Ev.succ ?_
    simp only [spec_l30Has.l0]
    have e1 : wrap64 ((i : Int) + (w.size : Int)) = ((i + w.size : Nat) : Int) := by rw [w64 (by omega) (by omega)]; omega
    rw [e1, Int.toNat_natCast, Int.toNat_natCast, show wrap64 ((i : Int) + 1) = ((i + 1 : Nat) : Int) by rw [w64 (by omega) (by omega)]; omega]
    by_cases hle : i + w.size ≤ s.size
    · refine Ev.pos (by omega) (Ev.pos (by omega) (Ev.pos (by omega) ?_))
      by_cases ho : (s.extract i (i + w.size)).toList = w.toList
      · refine Ev.pos ho (Ev.to (Ev.now _) ?_)
        unfold Go.Lib.contains
        rw [Go.Lib.index_first (by rw [ba_size]; omega) ((occAt_iff s w i).1 ho) hno]
        exact (decide_eq_true (by omega)).symm
      · refine Ev.neg ho (ih (i + 1) (by omega) fun j hj => ?_)
        by_cases e : j = i
        · subst e
          exact Bool.eq_false_iff.2 fun h => ho ((occAt_iff s w j).2 h)
        · exact hno j (by omega)
    · refine Ev.neg (by omega) (Ev.to (Ev.now _) ?_)
      unfold Go.Lib.contains
      rw [Go.Lib.index_none fun j hj => ?_]
      · rfl
      · by_cases hji : j < i
        · exact hno j hji
        · refine Bool.eq_false_iff.2 fun h => ?_
          rw [Go.Lib.occAt, List.isPrefixOf_iff_prefix] at h
          have := h.length_le
          rw [List.length_drop, ba_size, ba_size] at this
          rw [ba_size] at hj
          have hz : w.size ≠ 0 → False := by omega
          omega
theorem l30Has_ev (s w : ByteArray) (hs : s.size ≤ 1048576) (hw : w.size ≤ 1048576) : Ev (fun k => spec_l30Has.f k s w) (Go.Lib.contains s.data.toList w.data.toList) := by
  simp only [spec_l30Has.f]
  exact l30Has_l0 s w hs hw (s.size + 1) 0 (by omega) (fun j hj => absurd hj (by omega))
theorem Contains_ev (s w : ByteArray) (hs : s.size ≤ 1048576) : strings_Contains.f s w = some (Go.Lib.contains s.data.toList w.data.toList) := by
  unfold strings_Contains.f
  rw [if_pos (by omega)]
theorem FindLines_l0 (l : List ByteArray) (w : ByteArray) (hl : l.length ≤ 1048576) (hs : ∀ z ∈ l, z.size ≤ 1048576) (hw : w.size ≤ 1048576) : ∀ (d i : Nat) (acc : List Int), i + d = l.length → acc.length ≤ i →
    ∃ r : List Int, r.length ≤ l.length ∧ Ev (fun k => spec_FindLines.l0 k l w acc i) (r, 0) ∧ Ev (fun k => impl_FindLines.l0 k w acc l (l.length : Int) i) (r, 0) := by
  intro d
  induction d with
  | zero =>
    intro i acc hi ha
    refine ⟨acc, by omega, Ev.succ ?_, Ev.succ ?_⟩
    · simp only [spec_FindLines.l0]
      exact Ev.neg (by omega) (Ev.now _)
    · simp only [impl_FindLines.l0]
      exact Ev.neg (by omega) (Ev.now _)
  | succ d ih =>
    intro i acc hi ha
    have hlt : i < l.length := by omega
    have hz := hs l[i] (List.getElem_mem hlt)
    cases hc : Go.Lib.contains l[i].data.toList w.data.toList with
    | true =>
      obtain ⟨r, hr, h1, h2⟩ := ih (i + 1) (acc ++ [(i : Int)]) (by omega) (by simp; omega)
      refine ⟨r, hr, Ev.succ ?_, Ev.succ ?_⟩
      · simp only [spec_FindLines.l0, rdOf_at _ l i hlt, w64_succ hlt (by omega : l.length ≤ _)]
        exact Ev.pos (by omega) (Ev.pos (by omega) (Ev.bind (l30Has_ev _ w hz hw) (Ev.pos hc (Ev.pos (by omega) h1))))
      · simp only [impl_FindLines.l0, rdOf_at _ l i hlt, w64_succ hlt (by omega : l.length ≤ _)]
        exact Ev.pos (by omega) (Ev.pos (by omega) (Ev.pos (by omega) (Ev.bind (Ev.const (Contains_ev _ w hz)) (Ev.pos hc (Ev.pos (by omega) h2)))))
    | false =>
      obtain ⟨r, hr, h1, h2⟩ := ih (i + 1) acc (by omega) (by omega)
      refine ⟨r, hr, Ev.succ ?_, Ev.succ ?_⟩
      · simp only [spec_FindLines.l0, rdOf_at _ l i hlt, w64_succ hlt (by omega : l.length ≤ _)]
        exact Ev.pos (by omega) (Ev.pos (by omega) (Ev.bind (l30Has_ev _ w hz hw) (Ev.neg (by rw [hc]; decide) h1)))
      · simp only [impl_FindLines.l0, rdOf_at _ l i hlt, w64_succ hlt (by omega : l.length ≤ _)]
        exact Ev.pos (by omega) (Ev.pos (by omega) (Ev.pos (by omega) (Ev.bind (Ev.const (Contains_ev _ w hz)) (Ev.neg (by rw [hc]; decide) h2))))
theorem FindLines_ev (l : List ByteArray) (w : ByteArray) (hl : l.length ≤ 1048576) (hs : ∀ z ∈ l, z.size ≤ 1048576) (hw : w.size ≤ 1048576) :
    ∃ (r : List Int) (c : Int), r.length ≤ 1048576 ∧ Ev (fun k => spec_FindLines.f k l w) (r, c) ∧ Ev (fun k => impl_FindLines.f k l w) (r, c) := by
  have hs' : ∀ z ∈ l, z.size ≤ 9223372036854775807 := fun z hz => Nat.le_trans (hs z hz) (by omega)
  have a := l30Ok_ev l (by omega) hs'
  have b := ValidReport_ev l (by omega) hs'
  simp only [spec_FindLines.f, impl_FindLines.f]
  cases hr : isReport l with
  | true =>
    rw [hr] at a b
    by_cases he : w.toList = ([] : List UInt8)
    · exact ⟨[], 2, by simp, Ev.bind a (Ev.pos rfl (Ev.pos he (Ev.now _))), Ev.bind b (Ev.pos rfl (Ev.pos he (Ev.now _)))⟩
    · obtain ⟨r, h0, h1, h2⟩ := FindLines_l0 l w hl hs hw l.length 0 [] (by omega) (by simp)
      exact ⟨r, 0, by omega, Ev.bind a (Ev.pos rfl (Ev.neg he h1)), Ev.bind b (Ev.pos rfl (Ev.neg he h2))⟩
  | false =>
    rw [hr] at a b
    exact ⟨[], 1, by simp, Ev.bind a (Ev.neg (by decide) (Ev.now _)), Ev.bind b (Ev.neg (by decide) (Ev.now _))⟩
theorem FnExactFindLines : laws_FnExactFindLines.Pure := by
  rintro l w ⟨hl, hs⟩ hw
  refine Ev.rounds (g := fun k => laws_FnExactFindLines.f k l w) ?_
  simp only [laws_FnExactFindLines.f]
  by_cases hbig : (w.size : Int) > 1048576
  · exact Ev.pos hbig (Ev.now _)
  refine Ev.neg hbig ?_
  obtain ⟨t, ht, hsz⟩ := szStringS_ev l hl hs
  refine Ev.bind ht ?_
  by_cases hneg : t < 0
  · exact Ev.pos hneg (Ev.now _)
  refine Ev.neg hneg ?_
  obtain ⟨hl1, hs1⟩ := hsz (by omega)
  obtain ⟨r, c, hr, h1, h2⟩ := FindLines_ev l w hl1 hs1 (by omega)
  have he := eqInt64S_ev r (by omega)
  have ht2 := toStringS_ev l hl1
  refine Ev.bind ht2 (Ev.bind h1 (Ev.bind ht2 (Ev.bind h2 (Ev.bind he (Ev.pos rfl (Ev.succ ?_))))))
  simp only [laws_FnExactFindLines.j0, bne_self_eq_false]
  refine Ev.neg (by decide) (Ev.bind ht2 (Ev.bind (eqStringS_ev l (by omega)) (Ev.pos rfl (Ev.bind (markStringS_ev l hl1) (Ev.neg (by omega) (Ev.bind he (Ev.pos rfl (Ev.succ ?_))))))))
  simp only [laws_FnExactFindLines.j1]
  refine Ev.neg (by decide) (Ev.bind (markInt64S_ev r (by omega)) (Ev.bind (heldInt64S_ev r.length (by omega)) (Ev.neg (by omega) (Ev.pos rfl (Ev.bind ht2 (Ev.bind h2 (Ev.bind he (Ev.pos rfl (Ev.succ ?_)))))))))
  simp only [laws_FnExactFindLines.j2, bne_self_eq_false]
  exact Ev.neg (by decide) (Ev.bind (heldInt64S_ev r.length (by omega)) (Ev.neg (by omega) (Ev.pos rfl (Ev.now _))))
end Go.Proofs.Ytpdggpfobbkdnaa.A
namespace Go.Proofs.Ytpdggpfobbkdnaa.Open
open Go.ChangeShapes Go.WideShapes Go.Deep Go.RowKit Go.Proofs.YtpdggpfobbkdnaaW.PrintWords
/-- Whatever reads at type t is a value of the kind d, and meets wf. -/
def Opens {α : Type} (P : Program) (t : TypeId) (d : Kd α) (wf : α → Prop) : Prop :=
  ∀ {H : Type} {enc : TypeId × Value → H} {w : World} {base : Nat} {spare : Nat → Bool} {held : Bool} {fuel : Nat} {cs : List Value} {x : DataW H × List MemPlace},
    DataW.trod enc P w base spare held fuel t cs = some x → ∃ v : α, d.K w v cs ∧ wf v
theorem opens_int {P : Program} {t : TypeId} {k : IntKind} (ht : P.underlying t = some (.int k)) : Opens P t (Kd.int k) (fun n => (Lit.int k n).wf = true) := by
  intro H enc w base spare held fuel cs x h
  obtain ⟨n, rfl, _, hw⟩ := DataW.trod_int ht h
  exact ⟨n, rfl, hw⟩
theorem opens_string {P : Program} {t : TypeId} (ht : P.underlying t = some .string) : Opens P t Kd.string (fun s => s.size ≤ maxLen) := by
  intro H enc w base spare held fuel cs x h
  obtain ⟨s, rfl, _, hw⟩ := DataW.trod_string ht h
  exact ⟨s, rfl, hw⟩
theorem opens_bool {P : Program} {t : TypeId} (ht : P.underlying t = some .bool) : Opens P t Kd.bool (fun _ => True) := by
  intro H enc w base spare held fuel cs x h
  obtain ⟨b, rfl, _⟩ := DataW.trod_bool ht h
  exact ⟨b, rfl, trivial⟩
theorem opens_slice {α : Type} {P : Program} {t e : TypeId} {d : Kd α} {wf : α → Prop} (ht : P.underlying t = some (.slice e)) (hd : Opens P e d wf) (hc : P.cellsOf e = d.sz) :
    Opens P t (Kd.slice e d) (fun l => l.length ≤ maxLen ∧ ∀ x ∈ l, wf x) := by
  intro H enc w base spare held fuel cs x h
  rcases open_slice ht h with ⟨rfl, _⟩ | ⟨a, len, cap, m, n, D, Pl, rfl, _, hl, hm, hmm, _, hi⟩
  · exact ⟨[], ⟨none, 0, rfl, Nat.le_refl _, ⟨rfl, by simp, fun h => absurd h (by simp)⟩⟩, by simp⟩
  · have hlm : len ≤ m := by
      rw [hmm]
      split
      · exact hl
      · exact Nat.le_refl _
    have each : ∀ i, i < len → ∃ v : α, (∃ cs', w.cells? base (a.add (i * d.sz)) d.sz = some cs' ∧ d.K w v cs') ∧ wf v := by
      intro i hil
      obtain ⟨cs', h1, h2⟩ := hi i (by omega)
      obtain ⟨v, h3, h4⟩ := hd h2
      rw [hc] at h1
      exact ⟨v, ⟨cs', h1, h3⟩, h4⟩
    have all : ∀ k, k ≤ len → ∃ l : List α, l.length = k ∧ ∀ i v, l[i]? = some v → (∃ cs', w.cells? base (a.add (i * d.sz)) d.sz = some cs' ∧ d.K w v cs') ∧ wf v := by
      intro k
      induction k with
      | zero => exact fun _ => ⟨[], rfl, fun i v h => by simp at h⟩
      | succ k ih =>
        intro hk
        obtain ⟨l, hl1, hl2⟩ := ih (by omega)
        obtain ⟨v, hv⟩ := each k (by omega)
        refine ⟨l ++ [v], by simp [hl1], fun i u hu => ?_⟩
        by_cases hik : i < k
        · rw [List.getElem?_append_left (by omega)] at hu
          exact hl2 i u hu
        · have hlt := (List.getElem?_eq_some_iff.1 hu).1
          simp [hl1] at hlt
          obtain rfl : i = k := by omega
          rw [List.getElem?_append_right (by omega), hl1, Nat.sub_self] at hu
          simp at hu
          subst hu
          exact hv
    obtain ⟨l, hl1, hl2⟩ := all len (Nat.le_refl _)
    refine ⟨l, ⟨some a, cap, by rw [hl1], by omega, ⟨rfl, by unfold maxLen at hm; omega, fun _ => ⟨a, rfl, fun j p hp => ?_⟩⟩⟩, by omega, fun x hx => ?_⟩
    · obtain ⟨⟨cs', hcs, hK⟩, _⟩ := hl2 j p hp
      obtain ⟨_, hcl, hat⟩ := World.cells?_some hcs
      refine ⟨cs', d.K_len hK, hK, fun i u hu => ?_⟩
      have hlt := (List.getElem?_eq_some_iff.1 hu).1
      have := hat i (by omega)
      rw [← Go.Deep.add_add, this, hu]
    · obtain ⟨i, hi'⟩ := List.getElem?_of_mem hx
      exact (hl2 i x hi').2
/-- The fields from a place on. -/
def OpensF {α : Type} (P : Program) (fs : Array Field) (off tot : Nat) (d : Kd α) (wf : α → Prop) : Prop :=
  ∀ {H : Type} {enc : TypeId × Value → H} {w : World} {base : Nat} {spare : Nat → Bool} {held : Bool} {n : Nat} {cs : List Value}, cs.length = tot →
    (∀ (j : Nat) (f : Field), fs[j]? = some f → ∃ y, DataW.trod enc P w base spare held n f.type ((cs.drop f.offset).take (P.cellsOf f.type)) = some y) → ∃ v : α, d.K w v (cs.drop off) ∧ wf v
theorem opensF_last {α : Type} {P : Program} {fs : Array Field} {off tot : Nat} {d : Kd α} {wf : α → Prop} (i : Nat) (f : Field) (hf : fs[i]? = some f) (ho : f.offset = off) (ht : off + P.cellsOf f.type = tot) (hd : Opens P f.type d wf) :
    OpensF P fs off tot d wf := by
  intro H enc w base spare held n cs hl h
  obtain ⟨y, hy⟩ := h i f hf
  rw [ho, List.take_of_length_le (by rw [List.length_drop]; omega)] at hy
  exact hd hy
theorem opensF_cons {α β : Type} {P : Program} {fs : Array Field} {off tot : Nat} {d : Kd α} {wf : α → Prop} {d' : Kd β} {wf' : β → Prop} (i : Nat) (f : Field) (hf : fs[i]? = some f) (ho : f.offset = off) (hd : Opens P f.type d wf) (off' : Nat) (hoff : off + P.cellsOf f.type = off')
    (hr : OpensF P fs off' tot d' wf') : OpensF P fs off tot (Kd.pair d d') (fun p => wf p.1 ∧ wf' p.2) := by
  intro H enc w base spare held n cs hl h
  obtain ⟨y, hy⟩ := h i f hf
  rw [ho] at hy
  obtain ⟨v, hv, hw⟩ := hd hy
  obtain ⟨v', hv', hw'⟩ := hr hl h
  refine ⟨(v, v'), ⟨_, _, ?_, hv, hv'⟩, hw, hw'⟩
  rw [← hoff, ← List.drop_drop, List.take_append_drop]
theorem opens_struct {α β : Type} {P : Program} {t : TypeId} {fs : Array Field} {tot : Nat} {d : Kd α} {wf : α → Prop} (f : β → α) (g : α → β) (hfg : ∀ x, f (g x) = x) (ht : P.underlying t = some (.struct fs)) (hc : P.cellsOf t = tot) (h : OpensF P fs 0 tot d wf) :
    Opens P t (Kd.iso d f) (fun b => wf (f b)) := by
  intro H enc w base spare held fuel cs x hx
  obtain ⟨xs, n, _, _, hlen, hsz, hat⟩ := DataW.trod_struct ht hx
  obtain ⟨v, hv, hw⟩ := h (w := w) (enc := enc) (base := base) (spare := spare) (held := held) (n := n) (cs := cs) (hlen.trans hc) (fun j fl hj => by
    have hlt : j < xs.length := by
      have := (Array.getElem?_eq_some_iff.1 hj).1
      omega
    exact ⟨xs[j], (hat j fl hj).trans (List.getElem?_eq_getElem hlt)⟩)
  refine ⟨g v, ?_, ?_⟩
  · show d.K w (f (g v)) cs
    rw [hfg]
    exact hv
  · show wf (f (g v))
    rw [hfg]
    exact hw
/-- A slice argument, opened. -/
theorem arg_slice {α H : Type} {enc : TypeId × Value → H} {P : Program} {W : World} {base : Nat} {spare : Nat → Bool} {held : Bool} {t e : TypeId} {d : Kd α} {wf : List α → Prop} {a : Option Addr} {len cap : Nat} {x : DataW H} {ps : List MemPlace}
    (ho : Opens P t (Kd.slice e d) wf) (h : DataW.Trod enc P W base spare held t (.slice a len cap) x ps) :
    ∃ l : List α, len = l.length ∧ l.length ≤ cap ∧ Kd.C d W a l.length l ∧ wf l := by
  obtain ⟨fuel, hf⟩ := h
  obtain ⟨l, ⟨A, c, hcs, hl, hC⟩, hw⟩ := ho hf
  simp [Value.cells] at hcs
  obtain ⟨rfl, rfl, rfl⟩ := hcs
  exact ⟨l, rfl, hl, hC, hw⟩
/-- A struct argument, opened. -/
theorem arg_struct {α H : Type} {enc : TypeId × Value → H} {P : Program} {W : World} {base : Nat} {spare : Nat → Bool} {held : Bool} {t : TypeId} {d : Kd α} {wf : α → Prop} {cs : Array Value} {x : DataW H} {ps : List MemPlace}
    (ho : Opens P t d wf) (h : DataW.Trod enc P W base spare held t (.agg cs) x ps) : ∃ v : α, d.K W v cs.toList ∧ wf v := by
  obtain ⟨fuel, hf⟩ := h
  obtain ⟨v, hv, hw⟩ := ho hf
  exact ⟨v, by simpa [Value.cells] using hv, hw⟩
end Go.Proofs.Ytpdggpfobbkdnaa.Open
