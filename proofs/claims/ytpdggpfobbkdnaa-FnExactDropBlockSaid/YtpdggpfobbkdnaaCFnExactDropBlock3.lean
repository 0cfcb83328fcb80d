/- Part 4 of the proof of FnExactDropBlockSaid: the functions that the law runs as plain Lean functions, the contracts of their calls, and plain facts about them. Condition: none beyond each theorem's own hypotheses. -/
import Derived.Test.YtpdggpfobbkdnaaCFnExactDropBlock0
import Derived.Test.YtpdggpfobbkdnaaCFnExactDropBlock1
import Derived.Deep.Slices
import Derived.Deep.Fields
import Derived.ChangeSame
import Derived.ProofKit
import Derived.Test.YtpdggpfobbkdnaaWWords
import Derived.Test.YtpdggpfobbkdnaaWLast
import Derived.Test.YtpdggpfobbkdnaaWTab
import Derived.Test.YtpdggpfobbkdnaaWFour
import Derived.Test.YtpdggpfobbkdnaaWQPut
import Derived.Test.YtpdggpfobbkdnaaWApart
import Derived.Test.YtpdggpfobbkdnaaWArr
import Derived.Test.YtpdggpfobbkdnaaWZeros
import Derived.Test.YtpdggpfobbkdnaaWFoot
import Derived.Test.YtpdggpfobbkdnaaWKept
import Derived.Test.YtpdggpfobbkdnaaWShare
import Derived.Test.YtpdggpfobbkdnaaWN
import Derived.Test.YtpdggpfobbkdnaaWFootNe
import Derived.Test.YtpdggpfobbkdnaaWAt
import Derived.Test.YtpdggpfobbkdnaaWEqStruct
import Derived.Test.YtpdggpfobbkdnaaWRepsOne
import Derived.Test.YtpdggpfobbkdnaaWInv
import Derived.Test.YtpdggpfobbkdnaaWInvWords
import Derived.Test.YtpdggpfobbkdnaaWGuard
import Derived.Test.YtpdggpfobbkdnaaWNEv
import Derived.Test.YtpdggpfobbkdnaaWMore
import Derived.Test.YtpdggpfobbkdnaaCFnExactDropBlock2
namespace Go.Proofs.Ytpdggpfobbkdnaa.A
open Go.RowKit Go.Proofs.YtpdggpfobbkdnaaW.PrintWords Go.Proofs.YtpdggpfobbkdnaaW.PrintLast Go.Proofs.YtpdggpfobbkdnaaW.PrintMore
attribute [local go_sem] max2_int min2_int max_two min_two max_three min_three max_four min_four   -- for this text's walks alone
set_option linter.unusedVariables false
set_option linter.unusedSimpArgs false

/-! ### laws_markStringS: function 20 -/
def laws_markStringS.l0 : Nat → List ByteArray → Int → Int → Option (Int × List ByteArray)
  | 0, _, _, _ => none
  | k + 1, x0, x1, x5 => if x5 < (x0.length : Int) then ((laws_markText.f k x1).bind fun t101 => (if 0 ≤ x5 then (laws_markStringS.l0 k (x0.set (x5 : Int).toNat t101) (wrap64 (x1 + 1)) (wrap64 (x5 + 1))) else (none))) else (some (x1, x0))
def laws_markStringS.f (k : Nat) (l0 : List ByteArray) (a1 : Int) : Option (Int × List ByteArray) := laws_markStringS.l0 k l0 a1 0
theorem laws_markStringS.mono_l : ∀ k, (∀ y0 y1 y2, LeO (laws_markStringS.l0 k y0 y1 y2) (laws_markStringS.l0 (k + 1) y0 y1 y2))
  | 0 => fun _ _ _ r h => by simp [laws_markStringS.l0] at h
  | k + 1 => by
    have ih0 := laws_markStringS.mono_l k
    · intro y0 y1 y2
      unfold laws_markStringS.l0
      repeat' first
      | (with_reducible exact ih0 _ _ _)
      | (with_reducible exact laws_markText.mono _ _)
      | (with_reducible exact LeO.refl _)
      | (with_reducible exact LeO.none _)
      | (with_reducible refine LeO.ite ?_ ?_)
      | (with_reducible refine LeO.bind ?_ (fun _ => ?_))
      | exact ih0 _ _ _
      | exact laws_markText.mono _ _
      | exact LeO.none _
      | refine LeO.ite ?_ ?_
      | refine LeO.bind ?_ (fun _ => ?_)
theorem laws_markStringS.mono : ∀ a0 a1 k, LeO (laws_markStringS.f k a0 a1) (laws_markStringS.f (k + 1) a0 a1) := by
  intro a0 a1 k
  have ih0 := laws_markStringS.mono_l k
  unfold laws_markStringS.f
  repeat' first
      | (with_reducible exact ih0 _ _ _)
      | (with_reducible exact laws_markText.mono _ _)
      | (with_reducible exact LeO.refl _)
      | (with_reducible exact LeO.none _)
      | (with_reducible refine LeO.ite ?_ ?_)
      | (with_reducible refine LeO.bind ?_ (fun _ => ?_))
      | exact ih0 _ _ _
      | exact laws_markText.mono _ _
      | exact LeO.none _
      | refine LeO.ite ?_ ?_
      | refine LeO.bind ?_ (fun _ => ?_)
set_option maxHeartbeats 8000000 in
set_option maxRecDepth 100000 in
theorem laws_markStringS.calls (k : Nat) (P0_ : Nat → Prop) (u9000_ : Value) (l0 : List ByteArray) (a1 : Int) (r1 : Int) (r2 : List ByteArray) (w0 w : World) (hB : Below w0.heap.size w0 w) (ho0 : Kd.R Kd.string 9 w w0.heap.size P0_ u9000_ l0) (h : laws_markStringS.f k l0 a1 = some (r1, r2)) :
    Calls Try.prog 20 #[u9000_, .int .i64 a1] w fun e w' => e = .returned (.int .i64 r1) ∧ Kd.R Kd.string 9 w' w0.heap.size (fun k_ => (P0_ k_ ∨ w.heap.size ≤ k_)) u9000_ r2 ∧ Below w0.heap.size w0 w' ∧ Kept w w' (fun k_ => P0_ k_) := by
  have HO0 := Aside0.mk (show Kd.R Kd.string 9 w w0.heap.size (fun k_ => (P0_ k_ ∨ w.heap.size ≤ k_)) u9000_ l0 from Kd.R_mono ho0 (fun k_ hk => (.inl hk)))
  have HK := Aside0.mk (Kept.refl w (fun k_ => P0_ k_))
  have HW0 := Aside0.mk hB.size
  have HB := Aside0.mk hB
  clear hB
  have H : (laws_markStringS.l0 k l0 a1 0) = some (r1, r2) := h
  clear h
  have H' := Aside0.mk H
  clear H
  go_enter Try.func20, Try.ntmps20
  go_wp2
  go_loopg [1, 5] k (fun kq v1 v5 w' => ∃ (x0_1 : List ByteArray) (x1_1 : Int) (x5_1 : Int), v1 = .int .i64 x1_1 ∧ v5 = .int .i64 x5_1 ∧ Aside0 (laws_markStringS.l0 kq x0_1 x1_1 x5_1 = some (r1, r2)) ∧ Aside0 (kq ≤ k) ∧ Aside0 (Kd.R Kd.string 9 w' w0.heap.size (fun k_ => (P0_ k_ ∨ w.heap.size ≤ k_)) u9000_ x0_1) ∧ Aside0 (Kept w w' (fun k_ => P0_ k_)) ∧ Aside0 (Below w0.heap.size w0 w'))
  case atStart => exact ⟨(l0), (a1), (0), (by first | rfl | (simp; done) | (simp [*]; done)), (by first | rfl | (simp; done) | (simp [*]; done)), H', ⟨Nat.le_refl _⟩, ⟨by (with_reducible repeat (first | apply Kd.R_alloc | apply Kd.R_drewN | apply Kd.R_drew)); exact HO0.out⟩, ⟨by repeat (first | (with_reducible first | exact HK.out | apply Kept.alloc | apply Kept.drewN | apply Kept.drew) | exact HK.out)⟩, ⟨by repeat (first | (with_reducible first | exact HB.out | apply below_alloc | apply pw_below_drewN | apply below_drew1) | exact HB.out)⟩⟩
  case round =>
    clear H'
    try clear c2
    try clear p2
    obtain ⟨x0_1, x1_1, x5_1, rfl, rfl, HA, HK1, HO_0, HK, HB⟩ := hrel
    cases gk with
    | zero => exact absurd HA.out (by simp [laws_markStringS.l0])
    | succ k1 =>
      have H := HA.out
      clear HA
      simp only [laws_markStringS.l0] at H
      by_cases c3 : x5_1 < (x0_1.length : Int)
      · rw [if_pos c3] at H
        have c3b0 : decide (x5_1 < (x0_1.length : Int)) = true := decide_eq_true c3
        clear c3
        replace H := Option.bind_eq_some_iff.mp H
        obtain ⟨t101, A40, H⟩ := H
        replace H : (if 0 ≤ x5_1 then (laws_markStringS.l0 k1 (x0_1.set (x5_1 : Int).toNat t101) (wrap64 (x1_1 + 1)) (wrap64 (x5_1 + 1))) else (none)) = some (r1, r2) := H
        have A4 := Aside0.mk A40
        clear A40
        by_cases c5 : 0 ≤ x5_1
        · rw [if_pos c5] at H
          have c5b0 : decide (0 ≤ x5_1) = true := decide_eq_true c5
          clear c5
          obtain ⟨y102, hy102⟩ : ∃ y_ : List ByteArray, y_ = (x0_1.set (x5_1 : Int).toNat t101) := ⟨_, rfl⟩
          replace H : (laws_markStringS.l0 k1 y102 (wrap64 (x1_1 + 1)) (wrap64 (x5_1 + 1))) = some (r1, r2) := by first | (rw [hy102]; with_reducible exact H) | (have H2_ := (Option.bind_some _ _).symm.trans H; rw [hy102]; with_reducible exact H2_) | (have H2_ := (Option.bind_some _ _).symm.trans H; with_reducible exact H2_) | with_reducible exact H | (rw [hy102]; exact H) | exact H
          have Ny102 := Aside0.mk hy102
          clear hy102
          have H' := Aside0.mk H
          clear H
          obtain ⟨Ao7, co7, eo7⟩ := Kd.R_slice HO_0.out
          subst eo7
          go_wp2_with (first | ((with_reducible refine gate_callee (f := 61) rfl ?_); refine goesL_ (some 15) rfl rfl Try.func61 (by kernel_rfl) rfl #[.int .i64 x1_1] rfl (by (try simp only [List.map_toArray, List.map_cons, List.map_nil]); first | done | rfl | (simp only [List.length_drop, List.length_take]; rfl)) ?_; (with_reducible refine (laws_markText.calls k1 x1_1 t101 _ A4.out).mono ?_); rintro e w8 ⟨rfl, hb⟩; refine ⟨_, rfl, ?_⟩; have n0_ := Aside0.mk (Kd.R_below (by (with_reducible repeat (first | apply Kd.R_alloc | apply Kd.R_drewN | apply Kd.R_drew)); exact HO_0.out) hb); have n1_ := Aside0.mk (Kept.below (S := (fun k_ => P0_ k_)) (by repeat (first | (with_reducible first | exact HK.out | apply Kept.alloc | apply Kept.drewN | apply Kept.drew) | exact HK.out)) hb); have n2_ := Aside0.mk (below_step (by repeat (first | (with_reducible first | exact HB.out | apply below_alloc | apply pw_below_drewN | apply below_drew1) | exact HB.out)) hb); clear HO_0; clear HK; clear HB; have HO_0 := n0_; have HK := n1_; have HB := n2_; clear n0_ n1_ n2_; (try clear hb); (try clear hb2); (try clear hk); (try clear hi); have p6 : 0 ≤ (x5_1 : Int) := of_decide_eq_true (by first | (with_reducible assumption) | assumption); have q6 : (x5_1 : Int) < ((x0_1.length : Int) : Int) := of_decide_eq_true (by first | (with_reducible assumption) | assumption); obtain ⟨go6, co6, eo6, gb6, gl6, cl6, HG6⟩ := Kd.R_form HO_0.out (by omega); (first | cases eo6 | (injection eo6 with ea_ en_ ec_; (first | subst ea_ | (injection ea_ with ea_; subst ea_)); subst ec_; clear en_)); have GB6 := Aside0.mk gb6; have GG6 := Aside0.mk HG6; clear gb6 gl6 HG6; have HMgo6 := Aside0.mk (show (P0_ go6 ∨ w.heap.size ≤ go6) from (HO_0.out.1 _ rfl)); obtain ⟨hx6_0, hf6_0⟩ := Kd.R_celln (⟨#[]⟩ : ByteArray) HO_0.out (x5_1 : Int) p6 q6; replace p6 := eq_true p6; replace q6 := eq_true q6; obtain ⟨hy9_, hz9_⟩ := Kd.R_celln (⟨#[]⟩ : ByteArray) HO_0.out (x5_1 : Int) (of_decide_eq_true (by first | (with_reducible assumption) | assumption)) (of_decide_eq_true (by first | (with_reducible assumption) | assumption)); have HP9 := Kd.R_putg HO_0.out (x5_1 : Int) t101) | ((with_reducible refine gate_store (t := 9) (p := 16) rfl ?_); refine store_event (t := 9) (p := 16) (v := ?vo_w10) (w1 := (w8.setCell ⟨go6, (x5_1 : Int).toNat, none⟩ (.string t101))) ?hg ?ho ?hn ?hr ?_; (case ho => rfl); (case hg => rfl); (case hn => rfl); (case hr => first | (go_simp; done) | (go_simp; rfl)); intro w10 hw; have hg : w8.grownBy w10 (some go6) := (by rw [hw]; exact HP9.2); have hp_ : Kd.R Kd.string 9 w10 w0.heap.size (fun k_ => (P0_ k_ ∨ w.heap.size ≤ k_)) (.slice (some ⟨go6, 0, none⟩) x0_1.length co7) y102 := (by rw [hw, Ny102.out]; exact HP9.1); clear HP9; have n0_ := Aside0.mk (hp_); have n1_ := Aside0.mk ((by rw [hw]; exact below_set (HB.out) GB6.out : Below w0.heap.size w0 w10)); have n2_ := Aside0.mk (Kept.of_grown (S := (fun k_ => P0_ k_)) hg (by repeat (first | (with_reducible first | exact HK.out | apply Kept.alloc | apply Kept.drewN | apply Kept.drew) | exact HK.out)) (fun k_ e_ => (HO_0.out.1 k_ e_))); clear HO_0; clear HB; clear HK; have HO_0 := n0_; have HB := n1_; have HK := n2_; clear n0_ n1_ n2_; clear hg hw hp_))
          go_roundg k1
          case measure => have := HK1.out; omega
          case rel => exact ⟨(y102), (wrap64 (x1_1 + 1)), (wrap64 (x5_1 + 1)), (by first | rfl | (simp; done) | (simp [*]; done)), (by first | rfl | (simp; done) | (simp [*]; done)), H', ⟨by have := HK1.out; omega⟩, ⟨by (with_reducible repeat (first | apply Kd.R_alloc | apply Kd.R_drewN | apply Kd.R_drew)); exact HO_0.out⟩, ⟨by repeat (first | (with_reducible first | exact HK.out | apply Kept.alloc | apply Kept.drewN | apply Kept.drew) | exact HK.out)⟩, ⟨by repeat (first | (with_reducible first | exact HB.out | apply below_alloc | apply pw_below_drewN | apply below_drew1) | exact HB.out)⟩⟩
        · rw [if_neg c5] at H
          exact absurd H (by simp)
      · rw [if_neg c3] at H
        have c3b0 : decide (x5_1 < (x0_1.length : Int)) = false := decide_eq_false c3
        clear c3
        simp only [Option.some.injEq, Prod.mk.injEq] at H
        obtain ⟨rfl, rfl⟩ := H
        obtain ⟨Ao11, co11, eo11⟩ := Kd.R_slice HO_0.out
        subst eo11
        go_wp2
        go_ret
        exact ⟨by first | rfl | (simp [errW_none, errW_some] <;> rfl) | (simp [*, errW_none, errW_some] <;> rfl), by (with_reducible repeat (first | apply Kd.R_alloc | apply Kd.R_drewN | apply Kd.R_drew)); exact HO_0.out, by repeat (first | (with_reducible first | exact HB.out | apply below_alloc | apply pw_below_drewN | apply below_drew1) | exact HB.out), by repeat (first | (with_reducible first | exact HK.out | apply Kept.alloc | apply Kept.drewN | apply Kept.drew) | exact HK.out)⟩

end Go.Proofs.Ytpdggpfobbkdnaa.A
namespace Go.Proofs.Ytpdggpfobbkdnaa.A
open Go.RowKit Go.Proofs.YtpdggpfobbkdnaaW.PrintWords Go.Proofs.YtpdggpfobbkdnaaW.PrintLast
theorem szStringS_l0 (l : List ByteArray) (hl : l.length ≤ 9223372036854775807) (hs : ∀ z ∈ l, z.size ≤ 9223372036854775807) : ∀ (d i : Nat) (left : Int), i + d = l.length → 0 ≤ left → left ≤ 1048576 →
    ∃ t, Ev (fun k => laws_szStringS.l0 k l left i) t ∧ (0 ≤ t → ∀ j (h : j < l.length), i ≤ j → l[j].size ≤ 1048576) := by
  intro d
  induction d with
  | zero =>
    intro i left hi h0 h1
    refine ⟨left, Ev.succ ?_, fun _ j h hj => absurd h (by omega)⟩
    simp only [laws_szStringS.l0]
    exact Ev.neg (by omega) (Ev.now _)
  | succ d ih =>
    intro i left hi h0 h1
    have hlt : i < l.length := by omega
    have hz := hs l[i] (List.getElem_mem hlt)
    have hw : wrap64 (left - (l[i].size : Int)) = left - (l[i].size : Int) := w64 (by omega) (by omega)
    by_cases hn : left - (l[i].size : Int) < 0
    · refine ⟨-1, Ev.succ ?_, fun h => absurd h (by omega)⟩
      simp only [laws_szStringS.l0, rdOf_at _ l i hlt, hw]
      exact Ev.pos (by omega) (Ev.pos (by omega) (Ev.pos hn (Ev.now _)))
    · obtain ⟨t, ht, hall⟩ := ih (i + 1) (left - (l[i].size : Int)) (by omega) (by omega) (by omega)
      refine ⟨t, Ev.succ ?_, fun h j hj hij => ?_⟩
      · simp only [laws_szStringS.l0, rdOf_at _ l i hlt, hw, w64_succ hlt hl]
        exact Ev.pos (by omega) (Ev.pos (by omega) (Ev.neg hn ht))
      · by_cases e : i = j
        · subst e
          omega
        · exact hall h j hj (by omega)
theorem szStringS_ev (l : List ByteArray) (hl : l.length ≤ maxLen) (hs : ∀ z ∈ l, z.size ≤ maxLen) :
    ∃ t, Ev (fun k => laws_szStringS.f k l 1048576) t ∧ (0 ≤ t → l.length ≤ 1048576 ∧ ∀ z ∈ l, z.size ≤ 1048576) := by
  unfold maxLen at hl hs
  have hw : wrap64 (1048576 - (l.length : Int)) = 1048576 - (l.length : Int) := w64 (by omega) (by omega)
  by_cases hn : 1048576 - (l.length : Int) < 0
  · refine ⟨-1, ?_, fun h => absurd h (by omega)⟩
    simp only [laws_szStringS.f, hw]
    exact Ev.pos hn (Ev.now _)
  · obtain ⟨t, ht, hall⟩ := szStringS_l0 l hl hs l.length 0 (1048576 - (l.length : Int)) (by omega) (by omega) (by omega)
    refine ⟨t, ?_, fun h => ⟨by omega, fun z hz => ?_⟩⟩
    · simp only [laws_szStringS.f, hw]
      exact Ev.neg hn ht
    · obtain ⟨j, hj, rfl⟩ := List.getElem_of_mem hz
      exact hall h j hj (by omega)
theorem toStringS_l0 (l : List ByteArray) (hl : l.length ≤ 9223372036854775807) : ∀ (d i : Nat) (x : List ByteArray), i + d = l.length → x.length = l.length → (∀ j, j < i → x[j]? = l[j]?) → Ev (fun k => laws_toStringS.l0 k l x i) l := by
  intro d
  induction d with
  | zero =>
    intro i x hi hx hp
    refine Ev.succ ?_
    simp only [laws_toStringS.l0]
    refine Ev.neg (by omega) (Ev.to (Ev.now x) ?_)
    refine List.ext_getElem? fun j => ?_
    by_cases hj : j < i
    · exact hp j hj
    · rw [List.getElem?_eq_none (by omega), List.getElem?_eq_none (by omega)]
  | succ d ih =>
    intro i x hi hx hp
    have hlt : i < l.length := by omega
    refine Ev.succ ?_
    simp only [laws_toStringS.l0, rdOf_at _ l i hlt, w64_succ hlt hl]
    refine Ev.pos (by omega) (Ev.pos (by omega) (Ev.pos (by omega) (ih (i + 1) _ (by omega) (by simpa using hx) fun j hj => ?_)))
    rw [Int.toNat_natCast]
    by_cases e : i = j
    · subst e
      rw [List.getElem?_set_self (by omega), List.getElem?_eq_getElem hlt]
    · rw [List.getElem?_set_ne e]
      exact hp j (by omega)
theorem toStringS_ev (l : List ByteArray) (hl : l.length ≤ 1048576) : Ev (fun k => laws_toStringS.f k l) l := by
  simp only [laws_toStringS.f]
  exact Ev.pos (by omega) (Ev.pos (by omega) (toStringS_l0 l (by omega) l.length 0 _ (by omega) (by simp) (fun j hj => absurd hj (by omega))))
theorem eqStringS_l0 (l : List ByteArray) (hl : l.length ≤ 9223372036854775807) : ∀ (d i : Nat), i + d = l.length → Ev (fun k => laws_eqStringS.l0 k l l i) true := by
  intro d
  induction d with
  | zero =>
    intro i hi
    refine Ev.succ ?_
    simp only [laws_eqStringS.l0]
    exact Ev.neg (by omega) (Ev.now _)
  | succ d ih =>
    intro i hi
    have hlt : i < l.length := by omega
    refine Ev.succ ?_
    simp only [laws_eqStringS.l0, w64_succ hlt hl]
    exact Ev.pos (by omega) (Ev.pos (by omega) (Ev.pos (by omega) (Ev.pos trivial (ih (i + 1) (by omega)))))
theorem eqStringS_ev (l : List ByteArray) (hl : l.length ≤ 9223372036854775807) : Ev (fun k => laws_eqStringS.f k l l) true := by
  simp only [laws_eqStringS.f]
  exact Ev.pos trivial (eqStringS_l0 l hl l.length 0 (by omega))
theorem ba_size_append (a b : ByteArray) : (a ++ b).size = a.size + b.size := ByteArray.size_append
theorem strOfNums_one (n : Int) : (strOfNums [n]).size = 1 := by
  simp [strOfNums, ByteArray.size]
theorem markText_l0 : ∀ (d : Nat) (n : Int) (x : ByteArray), 0 ≤ n → n < 2 ^ d → n ≤ 4611686018427387904 → x.size + d ≤ 1000 → ∃ s, Ev (fun k => laws_markText.l0 k n x) s := by
  intro d
  induction d with
  | zero =>
    intro n x h0 h1 _ hx
    refine ⟨(⟨#[109]⟩ : ByteArray) ++ x, Ev.succ ?_⟩
    simp only [laws_markText.l0]
    exact Ev.neg (by omega) (Ev.pos (by omega) (Ev.now _))
  | succ d ih =>
    intro n x h0 h1 h2 hx
    by_cases hn : n > 0
    · have hd : Int.tdiv n 10 = n / 10 := Int.tdiv_eq_ediv_of_nonneg h0
      have hw : wrap64 (n / 10) = n / 10 := w64 (by omega) (by omega)
      have hp : (2 : Int) ^ (d + 1) = 2 * 2 ^ d := by rw [Int.pow_succ]; omega
      obtain ⟨s, hs⟩ := ih (n / 10) (strOfNums [(wrap64 (48 + (Int.tmod n 10))) % 256] ++ x) (by omega) (by omega) (by omega) (by rw [ba_size_append, strOfNums_one]; omega)
      refine ⟨s, Ev.succ ?_⟩
      simp only [laws_markText.l0, hd, hw, Option.bind_some]
      exact Ev.pos hn (Ev.pos (by rw [strOfNums_one]; omega) hs)
    · refine ⟨(⟨#[109]⟩ : ByteArray) ++ x, Ev.succ ?_⟩
      simp only [laws_markText.l0]
      exact Ev.neg hn (Ev.pos (by omega) (Ev.now _))
theorem markText_ev (n : Nat) (hn : n ≤ 4611686018427387904) : ∃ s, Ev (fun k => laws_markText.f k (n : Int)) s := by
  by_cases h : (n : Int) ≤ 0
  · exact ⟨_, by simp only [laws_markText.f]; exact Ev.pos h (Ev.now _)⟩
  · obtain ⟨s, hs⟩ := markText_l0 63 n ⟨#[]⟩ (by omega) (by omega) (by omega) (by decide)
    exact ⟨s, by simp only [laws_markText.f]; exact Ev.neg h hs⟩
/-- The mark of a number. -/
noncomputable def mt (n : Nat) : ByteArray := if h : n ≤ 4611686018427387904 then Classical.choose (markText_ev n h) else ByteArray.empty
theorem mt_ev (n : Nat) (h : n ≤ 4611686018427387904) : Ev (fun k => laws_markText.f k (n : Int)) (mt n) := by
  unfold mt
  rw [dif_pos h]
  exact Classical.choose_spec (markText_ev n h)
theorem markStringS_l0 (n : Nat) (hl : n ≤ 1048576) : ∀ (d i : Nat) (x : List ByteArray), i + d = n → x.length = n → (∀ j, j < i → x[j]? = some (mt (1 + j))) →
    Ev (fun k => laws_markStringS.l0 k x ((1 + i : Nat) : Int) i) (((1 + n : Nat) : Int), (List.range n).map fun j => mt (1 + j)) := by
  intro d
  induction d with
  | zero =>
    intro i x hi hx hp
    refine Ev.succ ?_
    simp only [laws_markStringS.l0]
    refine Ev.neg (by omega) (Ev.to (Ev.now _) ?_)
    obtain rfl : i = n := by omega
    refine congrArg _ (List.ext_getElem? fun j => ?_)
    by_cases hj : j < i
    · rw [hp j hj]
      simp [hj]
    · rw [List.getElem?_eq_none (by omega), List.getElem?_eq_none (by simp; omega)]
  | succ d ih =>
    intro i x hi hx hp
    have hlt : i < x.length := by omega
    refine Ev.succ ?_
    simp only [laws_markStringS.l0]
    rw [w64_succ hlt (by omega), show wrap64 (((1 + i : Nat) : Int) + 1) = ((1 + (i + 1) : Nat) : Int) by rw [w64 (by omega) (by omega)]; omega, Int.toNat_natCast]
    refine Ev.pos (by omega) (Ev.bind (mt_ev (1 + i) (by omega)) (Ev.pos (by omega) (ih (i + 1) _ (by omega) (by simpa using hx) fun j hj => ?_)))
    by_cases e : i = j
    · subst e
      rw [List.getElem?_set_self (by omega)]
    · rw [List.getElem?_set_ne e]
      exact hp j (by omega)
theorem markStringS_ev (l : List ByteArray) (hl : l.length ≤ 1048576) : Ev (fun k => laws_markStringS.f k l 1) (((1 + l.length : Nat) : Int), (List.range l.length).map fun j => mt (1 + j)) := by
  simp only [laws_markStringS.f]
  exact markStringS_l0 l.length hl l.length 0 l (by omega) rfl (fun j hj => absurd hj (by omega))
end Go.Proofs.Ytpdggpfobbkdnaa.A
namespace Go.Proofs.Ytpdggpfobbkdnaa.A
open Go.RowKit Go.Proofs.YtpdggpfobbkdnaaW.PrintWords Go.Proofs.YtpdggpfobbkdnaaW.PrintLast
noncomputable def mkB (j : Nat) : Blk := ⟨mt (3 * j + 1), mt (3 * j + 2), mt (3 * j + 3)⟩
noncomputable def marksB (n : Nat) : List Blk := (List.range n).map mkB
theorem marksB_len (n : Nat) : (marksB n).length = n := by simp [marksB]
theorem w64_num {a b : Nat} (h : a + 1 = b) (hb : b ≤ 9223372036854775807) : wrap64 ((a : Int) + 1) = (b : Int) := by
  rw [w64 (by omega) (by omega)]
  omega
theorem markBlockS_l0 (n : Nat) (hl : n ≤ 1048576) : ∀ (d i : Nat) (x : List Blk), i + d = n → x.length = n → (∀ j, j < i → x[j]? = some (mkB j)) →
    Ev (fun k => laws_markBlockS.l0 k x ((3 * i + 1 : Nat) : Int) i) (((3 * n + 1 : Nat) : Int), marksB n) := by
  intro d
  induction d with
  | zero =>
    intro i x hi hx hp
    refine Ev.succ ?_
    simp only [laws_markBlockS.l0]
    refine Ev.neg (by omega) (Ev.to (Ev.now _) ?_)
    obtain rfl : i = n := by omega
    refine congrArg _ (List.ext_getElem? fun j => ?_)
    by_cases hj : j < i
    · rw [hp j hj]
      simp [marksB, hj]
    · rw [List.getElem?_eq_none (by omega), List.getElem?_eq_none (by rw [marksB_len]; omega)]
  | succ d ih =>
    intro i x hi hx hp
    have hlt : i < x.length := by omega
    refine Ev.succ ?_
    simp only [laws_markBlockS.l0]
    rw [w64_num (b := 3 * i + 2) (by omega) (by omega), w64_num (a := 3 * i + 2) (b := 3 * i + 3) (by omega) (by omega), w64_num (a := 3 * i + 3) (b := 3 * (i + 1) + 1) (by omega) (by omega), w64_succ hlt (by omega), Int.toNat_natCast]
    have hb : ∀ (y : List Blk) (b : Blk), y.length = n → rd_T69 (y.set i b) (i : Int) = b := fun y b hy => by
      rw [rdB_at _ i (by rw [List.length_set]; omega), List.getElem_set_self]
    refine Ev.pos (by omega) (Ev.bind (mt_ev (3 * i + 1) (by omega)) (Ev.pos (by omega) ?_))
    simp only [Option.bind_some]
    refine Ev.bind (mt_ev (3 * i + 2) (by omega)) ?_
    simp only [hb x _ hx]
    refine Ev.bind (mt_ev (3 * i + 3) (by omega)) ?_
    simp only [List.set_set, hb x _ hx]
    refine ih (i + 1) _ (by omega) (by simpa using hx) fun j hj => ?_
    by_cases e : i = j
    · subst e
      rw [List.getElem?_set_self (by omega)]
      rfl
    · rw [List.getElem?_set_ne e]
      exact hp j (by omega)
theorem markBlockS_ev (l : List Blk) (hl : l.length ≤ 1048576) : Ev (fun k => laws_markBlockS.f k l 1) (((3 * l.length + 1 : Nat) : Int), marksB l.length) := by
  simp only [laws_markBlockS.f]
  exact markBlockS_l0 l.length hl l.length 0 l (by omega) rfl (fun j hj => absurd hj (by omega))
end Go.Proofs.Ytpdggpfobbkdnaa.A
namespace Go.Proofs.Ytpdggpfobbkdnaa.A
open Go.RowKit Go.Proofs.YtpdggpfobbkdnaaW.PrintWords Go.Proofs.YtpdggpfobbkdnaaW.PrintLast
theorem marksB_at (n i : Nat) (h : i < n) : rd_T69 (marksB n) (i : Int) = mkB i := by
  rw [rdB_at _ _ (by rw [marksB_len]; exact h)]
  simp [marksB]
theorem heldBlockS_l0 (n : Nat) (hl : n ≤ 1048576) : ∀ (d i : Nat), i + d = n → Ev (fun k => laws_heldBlockS.l0 k (marksB n) ((3 * i + 1 : Nat) : Int) i) ((3 * n + 1 : Nat) : Int) := by
  intro d
  induction d with
  | zero =>
    intro i hi
    refine Ev.succ ?_
    simp only [laws_heldBlockS.l0, marksB_len]
    refine Ev.neg (by omega) (Ev.to (Ev.now _) (by omega))
  | succ d ih =>
    intro i hi
    have hlt : i < n := by omega
    refine Ev.succ ?_
    simp only [laws_heldBlockS.l0, marksB_len]
    rw [marksB_at n i hlt, w64_num (b := 3 * i + 2) (by omega) (by omega), w64_num (a := 3 * i + 2) (b := 3 * i + 3) (by omega) (by omega), w64_num (a := 3 * i + 3) (b := 3 * (i + 1) + 1) (by omega) (by omega), w64_succ hlt (by omega)]
    exact Ev.pos (by omega) (Ev.pos (by omega) (Ev.bind (mt_ev (3 * i + 1) (by omega)) (Ev.pos rfl (Ev.bind (mt_ev (3 * i + 2) (by omega)) (Ev.pos rfl (Ev.bind (mt_ev (3 * i + 3) (by omega)) (Ev.pos rfl (ih (i + 1) (by omega)))))))))
theorem heldBlockS_ev (n : Nat) (hl : n ≤ 1048576) : Ev (fun k => laws_heldBlockS.f k (marksB n) 1) ((3 * n + 1 : Nat) : Int) := by
  simp only [laws_heldBlockS.f]
  exact heldBlockS_l0 n hl n 0 (by omega)
end Go.Proofs.Ytpdggpfobbkdnaa.A
namespace Go.Proofs.Ytpdggpfobbkdnaa.A
open Go.RowKit Go.Proofs.YtpdggpfobbkdnaaW.PrintWords Go.Proofs.YtpdggpfobbkdnaaW.PrintLast
theorem bl_trans : ∀ {a b c : List UInt8}, Op.bytesLess a b = true → Op.bytesLess b c = true → Op.bytesLess a c = true
  | _, [], _, h, _ => by simp [Op.bytesLess] at h
  | _, _ :: _, [], _, h => by simp [Op.bytesLess] at h
  | [], _ :: _, _ :: _, _, _ => by simp [Op.bytesLess]
  | x :: a, y :: b, z :: c, h1, h2 => by
    simp only [Op.bytesLess, Bool.or_eq_true, Bool.and_eq_true, decide_eq_true_eq, beq_iff_eq, UInt8.lt_iff_toNat_lt] at h1 h2 ⊢
    rcases h1 with h1 | ⟨rfl, h1⟩
    · rcases h2 with h2 | ⟨rfl, h2⟩
      · exact .inl (by omega)
      · exact .inl h1
    · rcases h2 with h2 | ⟨rfl, h2⟩
      · exact .inl h2
      · exact .inr ⟨rfl, bl_trans h1 h2⟩
theorem blkLt_iff (a b : Blk) : blkLt a b = true ↔ Op.bytesLess a.f0.toList b.f0.toList = true ∨ (a.f0.toList = b.f0.toList ∧ Op.bytesLess a.f1.toList b.f1.toList = true) := by
  simp [blkLt]
theorem blkLt_trans {a b c : Blk} (h1 : blkLt a b = true) (h2 : blkLt b c = true) : blkLt a c = true := by
  rw [blkLt_iff] at *
  rcases h1 with h1 | ⟨e1, h1⟩
  · rcases h2 with h2 | ⟨e2, h2⟩
    · exact .inl (bl_trans h1 h2)
    · exact .inl (e2 ▸ h1)
  · rcases h2 with h2 | ⟨e2, h2⟩
    · exact .inl (e1 ▸ h2)
    · exact .inr ⟨e1.trans e2, bl_trans h1 h2⟩
theorem blkLt_irr (a : Blk) : blkLt a a = false := by
  simp [blkLt, bl_irr]
theorem okFromB_at (l : List Blk) : ∀ (d i : Nat), i + d = l.length → okFromB l d i = true → ∀ j (h : j < l.length), i ≤ j → blkOk l[j] = true ∧ (∀ (h0 : 0 < j), blkLt (l[j - 1]'(by omega)) l[j] = true) := by
  intro d
  induction d with
  | zero => intro i hi _ j h hj; omega
  | succ d ih =>
    intro i hi ho j h hj
    simp only [okFromB, Bool.and_eq_true] at ho
    have hlt : i < l.length := by omega
    rw [List.getElem?_eq_getElem hlt] at ho
    simp only [Bool.and_eq_true] at ho
    obtain ⟨⟨h1, h2⟩, h3⟩ := ho
    by_cases e : i = j
    · subst e
      refine ⟨h1, fun h0 => ?_⟩
      cases i with
      | zero => omega
      | succ m =>
        have hm : m < l.length := by omega
        simp only [List.getElem?_eq_getElem hm] at h2
        simpa using h2
    · exact ih (i + 1) (by omega) h3 j h (by omega)
/-- In strict order. -/
def SortedB (l : List Blk) : Prop := ∀ i j (hi : i < l.length) (hj : j < l.length), i < j → blkLt l[i] l[j] = true
theorem blksOk_sorted {l : List Blk} (h : blksOk l = true) : SortedB l ∧ l.length ≤ 32 ∧ ∀ b ∈ l, blkOk b = true := by
  unfold blksOk at h
  rw [Bool.and_eq_true] at h
  have ha := okFromB_at l l.length 0 (by omega) h.1
  refine ⟨?_, of_decide_eq_true h.2, fun b hb => ?_⟩
  · intro i j hi hj hij
    induction j with
    | zero => omega
    | succ j ih =>
      have hs := (ha (j + 1) hj (by omega)).2 (by omega)
      by_cases e : i = j
      · subst e
        exact hs
      · exact blkLt_trans (ih (by omega) (by omega)) hs
  · obtain ⟨j, hj, rfl⟩ := List.getElem_of_mem hb
    exact (ha j hj (by omega)).1
theorem mid_w (lo hi : Nat) (h : lo + hi ≤ 4611686018427387904) : wrap64 ((IntKind.u64.wrap (wrap64 ((lo : Int) + (hi : Int)))) / 2) = (((lo + hi) / 2 : Nat) : Int) := by
  have e1 : wrap64 ((lo : Int) + (hi : Int)) = ((lo + hi : Nat) : Int) := by rw [w64 (by omega) (by omega)]; omega
  have e2 : IntKind.u64.wrap ((lo + hi : Nat) : Int) = ((lo + hi : Nat) : Int) := by
    simp [IntKind.wrap, IntKind.bits, IntKind.signed]
    omega
  rw [e1, e2, w64 (by omega) (by omega)]
  omega
/-- Where a block stands, or would stand. -/
structure PlaceB (l : List Blk) (t : Blk) (p : Nat) : Prop where
  le : p ≤ l.length
  below : ∀ j (h : j < l.length), j < p → blkLt l[j] t = true
  above : ∀ j (h : j < l.length), p ≤ j → blkLt l[j] t = false
theorem BS_l0 (l : List Blk) (t : Blk) (hs : SortedB l) (hl : l.length ≤ 1048576) : ∀ (d lo hi : Nat), hi - lo ≤ d → lo ≤ hi → hi ≤ l.length → (∀ j (h : j < l.length), j < lo → blkLt l[j] t = true) → (∀ j (h : j < l.length), hi ≤ j → blkLt l[j] t = false) →
    ∃ p, PlaceB l t p ∧ Ev (fun k => impl_Block_67.l0 k l (l.length : Int) lo hi t.f0 t.f1 t.f2) ((p : Int), (if h : p < l.length then cmpB l[p] t == 0 else false)) := by
  intro d
  induction d with
  | zero =>
    intro lo hi hd hle hn hlo hhi
    obtain rfl : lo = hi := by omega
    refine ⟨lo, ⟨hn, hlo, hhi⟩, Ev.succ ?_⟩
    simp only [impl_Block_67.l0]
    refine Ev.neg (by omega) ?_
    by_cases h : lo < l.length
    · simp only [rdB_at l lo h, dif_pos h]
      exact Ev.pos (by omega) (Ev.pos (by omega) (Ev.pos (by omega) (Ev.bind (compareBlocks_ev _ _) (Ev.now _))))
    · simp only [dif_neg h]
      exact Ev.neg (by omega) (Ev.now _)
  | succ d ih =>
    intro lo hi hd hle hn hlo hhi
    by_cases hlt : lo < hi
    · have hm : (lo + hi) / 2 < l.length := by omega
      by_cases hc : cmpB l[(lo + hi) / 2] t < 0
      · obtain ⟨p, hp, he⟩ := ih ((lo + hi) / 2 + 1) hi (by omega) (by omega) hn (fun j h hj => by
          by_cases e : j = (lo + hi) / 2
          · subst e
            exact (cmpB_neg _ _).1 hc
          · exact blkLt_trans (hs j ((lo + hi) / 2) h hm (by omega)) ((cmpB_neg _ _).1 hc)) hhi
        refine ⟨p, hp, Ev.succ ?_⟩
        simp only [impl_Block_67.l0, mid_w lo hi (by omega), rdB_at l _ hm, w64_succ hm (by omega : l.length ≤ _)]
        exact Ev.pos (by omega) (Ev.pos (by omega) (Ev.pos (by omega) (Ev.bind (compareBlocks_ev _ _) (Ev.pos hc he))))
      · obtain ⟨p, hp, he⟩ := ih lo ((lo + hi) / 2) (by omega) (by omega) (by omega) hlo (fun j h hj => by
          cases h1 : blkLt l[j] t with
          | false => rfl
          | true =>
            by_cases e : j = (lo + hi) / 2
            · subst e
              exact absurd ((cmpB_neg _ _).2 h1) hc
            · exact absurd ((cmpB_neg _ _).2 (blkLt_trans (hs ((lo + hi) / 2) j hm h (by omega)) h1)) hc)
        refine ⟨p, hp, Ev.succ ?_⟩
        simp only [impl_Block_67.l0, mid_w lo hi (by omega), rdB_at l _ hm]
        exact Ev.pos (by omega) (Ev.pos (by omega) (Ev.pos (by omega) (Ev.bind (compareBlocks_ev _ _) (Ev.neg hc he))))
    · exact ih lo hi (by omega) hle hn hlo hhi
theorem BS_ev (l : List Blk) (t : Blk) (hs : SortedB l) (hl : l.length ≤ 1048576) :
    ∃ p, PlaceB l t p ∧ Ev (fun k => impl_Block_67.f k l t.f0 t.f1 t.f2) ((p : Int), (if h : p < l.length then cmpB l[p] t == 0 else false)) := by
  simp only [impl_Block_67.f]
  exact BS_l0 l t hs hl l.length 0 l.length (by omega) (by omega) (by omega) (fun j _ hj => absurd hj (by omega)) (fun j h hj => absurd h (by omega))
theorem l29Find_l0 (l : List Blk) (a b : ByteArray) (hl : l.length ≤ 1048576) : ∀ (d i : Nat), i + d = l.length →
    (∃ p, i ≤ p ∧ ∃ h : p < l.length, l[p].f0 = a ∧ l[p].f1 = b ∧ Ev (fun k => spec_l29Find.l0 k l a b i) (p : Int)) ∨
    ((∀ j (h : j < l.length), i ≤ j → ¬ (l[j].f0 = a ∧ l[j].f1 = b)) ∧ Ev (fun k => spec_l29Find.l0 k l a b i) (-1)) := by
  intro d
  induction d with
  | zero =>
    intro i hi
    refine .inr ⟨fun j h hj => by omega, Ev.succ ?_⟩
    simp only [spec_l29Find.l0]
    exact Ev.neg (by omega) (Ev.now _)
  | succ d ih =>
    intro i hi
    have hlt : i < l.length := by omega
    by_cases ha : l[i].f0.toList = a.toList
    · by_cases hb : l[i].f1.toList = b.toList
      · refine .inl ⟨i, by omega, hlt, bytes_ext ha, bytes_ext hb, Ev.succ ?_⟩
        simp only [spec_l29Find.l0, rdB_at l i hlt]
        exact Ev.pos (by omega) (Ev.pos (by omega) (Ev.pos ha (Ev.pos hb (Ev.now _))))
      · rcases ih (i + 1) (by omega) with ⟨p, hp, h, h1, h2, h3⟩ | ⟨h1, h2⟩
        · refine .inl ⟨p, by omega, h, h1, h2, Ev.succ ?_⟩
          simp only [spec_l29Find.l0, rdB_at l i hlt, w64_succ hlt (by omega : l.length ≤ _)]
          exact Ev.pos (by omega) (Ev.pos (by omega) (Ev.pos ha (Ev.neg hb h3)))
        · refine .inr ⟨fun j h hj hh => ?_, Ev.succ ?_⟩
          · by_cases e : j = i
            · subst e
              exact hb (by rw [hh.2])
            · exact h1 j h (by omega) hh
          · simp only [spec_l29Find.l0, rdB_at l i hlt, w64_succ hlt (by omega : l.length ≤ _)]
            exact Ev.pos (by omega) (Ev.pos (by omega) (Ev.pos ha (Ev.neg hb h2)))
    · rcases ih (i + 1) (by omega) with ⟨p, hp, h, h1, h2, h3⟩ | ⟨h1, h2⟩
      · refine .inl ⟨p, by omega, h, h1, h2, Ev.succ ?_⟩
        simp only [spec_l29Find.l0, rdB_at l i hlt, w64_succ hlt (by omega : l.length ≤ _)]
        exact Ev.pos (by omega) (Ev.pos (by omega) (Ev.neg ha h3))
      · refine .inr ⟨fun j h hj hh => ?_, Ev.succ ?_⟩
        · by_cases e : j = i
          · subst e
            exact ha (by rw [hh.1])
          · exact h1 j h (by omega) hh
        · simp only [spec_l29Find.l0, rdB_at l i hlt, w64_succ hlt (by omega : l.length ≤ _)]
          exact Ev.pos (by omega) (Ev.pos (by omega) (Ev.neg ha h2))
/-- Both searches find the same: where the block of a key stands, or that there is none. -/
theorem find_both (l : List Blk) (t : Blk) (hs : SortedB l) (hl : l.length ≤ 1048576) :
    ∃ p, PlaceB l t p ∧ ((∃ h : p < l.length, l[p].f0 = t.f0 ∧ l[p].f1 = t.f1 ∧ Ev (fun k => impl_Block_67.f k l t.f0 t.f1 t.f2) ((p : Int), true) ∧ Ev (fun k => spec_l29Find.f k l t.f0 t.f1) (p : Int)) ∨
      ((∀ j (h : j < l.length), ¬ (l[j].f0 = t.f0 ∧ l[j].f1 = t.f1)) ∧ Ev (fun k => impl_Block_67.f k l t.f0 t.f1 t.f2) ((p : Int), false) ∧ Ev (fun k => spec_l29Find.f k l t.f0 t.f1) (-1))) := by
  obtain ⟨p, hp, he⟩ := BS_ev l t hs hl
  refine ⟨p, hp, ?_⟩
  simp only [spec_l29Find.f]
  have uniq : ∀ j (h : j < l.length), l[j].f0 = t.f0 → l[j].f1 = t.f1 → j = p := by
    intro j h h0 h1
    have e : blkLt l[j] t = false := by
      have h2 : ∀ b : Blk, blkLt l[j] b = blkLt ⟨t.f0, t.f1, l[j].f2⟩ b := fun b => by simp [blkLt, h0, h1]
      rw [h2]
      simp [blkLt, bl_irr]
    have hpj : p ≤ j := Nat.le_of_not_lt fun hlt => by rw [hp.below j h hlt] at e; exact absurd e (by decide)
    by_cases hj : j = p
    · exact hj
    · have hpl : p < l.length := by omega
      have h3 := hs p j hpl h (by omega)
      have h4 := hp.above p hpl (Nat.le_refl _)
      have h5 : blkLt l[p] t = blkLt l[p] l[j] := by simp [blkLt, h0, h1]
      rw [h5, h3] at h4
      exact absurd h4 (by decide)
  rcases l29Find_l0 l t.f0 t.f1 hl l.length 0 (by omega) with ⟨q, _, h, h1, h2, h3⟩ | ⟨h1, h2⟩
  · obtain rfl := uniq q h h1 h2
    refine .inl ⟨h, h1, h2, Ev.to he ?_, h3⟩
    rw [dif_pos h, beq_iff_eq.2 ((cmpB_zero _ _).2 ⟨h1, h2⟩)]
  · refine .inr ⟨fun j h => h1 j h (by omega), Ev.to he ?_, h2⟩
    by_cases h : p < l.length
    · rw [dif_pos h]
      have : (cmpB l[p] t == 0) = false := beq_eq_false_iff_ne.2 fun e => h1 p h (by omega) ((cmpB_zero _ _).1 e)
      rw [this]
    · rw [dif_neg h]
end Go.Proofs.Ytpdggpfobbkdnaa.A
namespace Go.Proofs.Ytpdggpfobbkdnaa.A
open Go.RowKit Go.Proofs.YtpdggpfobbkdnaaW.PrintWords Go.Proofs.YtpdggpfobbkdnaaW.PrintLast
theorem cloneB_eq (l : List Blk) (h : l.length ≤ 1048576) : impl_Block_76.f l = some l := by
  simp only [impl_Block_76.f, Option.bind_some, List.nil_append, List.length_nil, Nat.zero_add]
  rw [if_pos (by omega)]
theorem deleteB_eq (l : List Blk) (p : Nat) (h : p < l.length) : impl_Block_75.f l (p : Int) ((p + 1 : Nat) : Int) = some (l.take p ++ l.drop (p + 1)) := by
  unfold impl_Block_75.f
  rw [if_pos ⟨by omega, by omega, by omega⟩]
  rfl
theorem DropBlock_ev (l : List Blk) (a b : ByteArray) (hl : l.length ≤ 1048576) (hf : ∀ x ∈ l, BFit x) :
    ∃ (r : List Blk) (c : Int), r.length ≤ 1048576 ∧ Ev (fun k => spec_DropBlock.f k l a b) (r, c) ∧ Ev (fun k => impl_DropBlock.f k l a b) (r, c) := by
  have ha := l29Ok_ev l (by omega) hf
  have hb := ValidBlocks_ev l (by omega) hf
  simp only [spec_DropBlock.f, impl_DropBlock.f]
  cases hr : blksOk l with
  | true =>
    rw [hr] at ha hb
    obtain ⟨hs, _, _⟩ := blksOk_sorted hr
    obtain ⟨p, _, ⟨h, _, _, h3, h4⟩ | ⟨_, h3, h4⟩⟩ := find_both l ⟨a, b, (⟨#[]⟩ : ByteArray)⟩ hs hl
    · have hlen : (l.take p ++ l.drop (p + 1)).length ≤ 1048576 := by
        rw [List.length_append, List.length_take, List.length_drop]
        omega
      have hw : wrap64 ((p : Int) + 1) = ((p + 1 : Nat) : Int) := w64_succ h (by omega)
      have t1 : (l.take p).length = p := by
        rw [List.length_take]
        omega
      have t2 : (l.drop (p + 1)).length = l.length - (p + 1) := List.length_drop
      refine ⟨l.take p ++ l.drop (p + 1), 0, hlen, Ev.bind ha (Ev.pos rfl (Ev.bind h4 (Ev.neg (by omega) ?_))), Ev.bind hb (Ev.pos rfl (Ev.bind h3 (Ev.pos rfl (Ev.bind (Ev.const (cloneB_eq l hl)) ?_))))⟩
      · simp only [hw, Option.bind_some, List.nil_append, List.length_nil, Nat.zero_add, Int.toNat_natCast]
        refine Ev.pos (by omega) (Ev.pos (by omega) (Ev.pos (by omega) (Ev.pos (by omega) (Ev.pos (by omega) (Ev.pos (by omega) (Ev.now _))))))
      · simp only [hw]
        exact Ev.bind (Ev.const (deleteB_eq l p h)) (Ev.now _)
    · exact ⟨[], 3, by simp, Ev.bind ha (Ev.pos rfl (Ev.bind h4 (Ev.pos (by omega) (Ev.now _)))), Ev.bind hb (Ev.pos rfl (Ev.bind h3 (Ev.neg (by simp) (Ev.now _))))⟩
  | false =>
    rw [hr] at ha hb
    exact ⟨[], 1, by simp, Ev.bind ha (Ev.neg (by decide) (Ev.now _)), Ev.bind hb (Ev.neg (by decide) (Ev.now _))⟩
theorem FnExactDropBlock : laws_FnExactDropBlock.Pure := by
  rintro l a b ⟨hl, hs⟩ ha hb
  refine Ev.rounds (g := fun k => laws_FnExactDropBlock.f k l a b) ?_
  simp only [laws_FnExactDropBlock.f]
  by_cases hbig : (a.size : Int) > 1048576
  · exact Ev.pos hbig (Ev.now _)
  refine Ev.neg hbig ?_
  by_cases hbig2 : (b.size : Int) > 1048576
  · exact Ev.pos hbig2 (Ev.now _)
  refine Ev.neg hbig2 ?_
  obtain ⟨t, ht, _, hsz⟩ := szBlockS_ev l hl hs
  refine Ev.bind ht ?_
  by_cases hneg : t < 0
  · exact Ev.pos hneg (Ev.now _)
  refine Ev.neg hneg ?_
  obtain ⟨hl1, hs1⟩ := hsz (by omega)
  have hto := toBlockS_ev l hl1
  have hln : (l.map convB).length ≤ 1048576 := by rw [List.length_map]; exact hl1
  have hf := fit_map l 1048576 (by omega) hs1
  obtain ⟨r, c, hr, h1, h2⟩ := DropBlock_ev (l.map convB) a b hln hf
  have he := eqBlockS_ev r (by omega)
  refine Ev.bind hto (Ev.bind h1 (Ev.bind hto (Ev.bind h2 (Ev.bind he (Ev.pos rfl (Ev.succ ?_))))))
  simp only [laws_FnExactDropBlock.j0, bne_self_eq_false]
  refine Ev.neg (by decide) (Ev.bind hto (Ev.bind (eqBlockS_ev _ (by omega)) (Ev.pos rfl (Ev.bind (markBlockS_ev _ hln) (Ev.neg (by omega) (Ev.bind he (Ev.pos rfl (Ev.succ ?_))))))))
  simp only [laws_FnExactDropBlock.j1]
  refine Ev.neg (by decide) (Ev.bind (markBlockS_ev r hr) (Ev.bind (heldBlockS_ev r.length hr) (Ev.neg (by omega) (Ev.pos rfl (Ev.bind hto (Ev.bind h2 (Ev.bind he (Ev.pos rfl (Ev.succ ?_)))))))))
  simp only [laws_FnExactDropBlock.j2, bne_self_eq_false]
  exact Ev.neg (by decide) (Ev.bind (heldBlockS_ev r.length hr) (Ev.neg (by omega) (Ev.pos rfl (Ev.now _))))
end Go.Proofs.Ytpdggpfobbkdnaa.A
namespace Go.Proofs.Ytpdggpfobbkdnaa.Open
open Go.ChangeShapes Go.WideShapes Go.Deep Go.RowKit Go.Proofs.YtpdggpfobbkdnaaW.PrintWords
/-- Whatever reads at type t is a value of the kind d, and meets wf. -/
structure Opens {α : Type} (P : Program) (t : TypeId) (d : Kd α) (wf : α → Prop) : Prop where
  out : ∀ {H : Type} {enc : TypeId × Value → H} {w : World} {base : Nat} {spare : Nat → Bool} {held : Bool} {fuel : Nat} {cs : List Value} {x : DataW H × List MemPlace},
    DataW.trod enc P w base spare held fuel t cs = some x → ∃ v : α, d.K w v cs ∧ wf v
theorem opens_int {P : Program} {t : TypeId} {k : IntKind} (ht : P.underlying t = some (.int k)) : Opens P t (Kd.int k) (fun n => (Lit.int k n).wf = true) := by
  refine ⟨?_⟩
  intro H enc w base spare held fuel cs x h
  obtain ⟨n, rfl, _, hw⟩ := DataW.trod_int ht h
  exact ⟨n, rfl, hw⟩
theorem opens_string {P : Program} {t : TypeId} (ht : P.underlying t = some .string) : Opens P t Kd.string (fun s => s.size ≤ maxLen) := by
  refine ⟨?_⟩
  intro H enc w base spare held fuel cs x h
  obtain ⟨s, rfl, _, hw⟩ := DataW.trod_string ht h
  exact ⟨s, rfl, hw⟩
theorem opens_bool {P : Program} {t : TypeId} (ht : P.underlying t = some .bool) : Opens P t Kd.bool (fun _ => True) := by
  refine ⟨?_⟩
  intro H enc w base spare held fuel cs x h
  obtain ⟨b, rfl, _⟩ := DataW.trod_bool ht h
  exact ⟨b, rfl, trivial⟩
theorem opens_slice {α : Type} {P : Program} {t e : TypeId} {d : Kd α} {wf : α → Prop} (ht : P.underlying t = some (.slice e)) (hd : Opens P e d wf) (hc : P.cellsOf e = d.sz) :
    Opens P t (Kd.slice e d) (fun l => l.length ≤ maxLen ∧ ∀ x ∈ l, wf x) := by
  refine ⟨?_⟩
  intro H enc w base spare held fuel cs x h
  rcases open_slice ht h with ⟨rfl, _⟩ | ⟨a, len, cap, m, n, D, Pl, rfl, _, hl, hm, hmm, _, hi⟩
  · exact ⟨[], ⟨none, 0, rfl, Nat.le_refl _, ⟨rfl, by simp, fun h => absurd h (by simp)⟩⟩, by simp⟩
  · have hlm : len ≤ m := by
      rw [hmm]
      split
      · exact hl
      · exact Nat.le_refl _
    have each : ∀ i, i < len → ∃ v : α, (∃ cs', w.cells? base (a.add (i * d.sz)) d.sz = some cs' ∧ d.K w v cs') ∧ wf v := by
      intro i hil
      obtain ⟨cs', h1, h2⟩ := hi i (by omega)
      obtain ⟨v, h3, h4⟩ := hd.out h2
      rw [hc] at h1
      exact ⟨v, ⟨cs', h1, h3⟩, h4⟩
    have all : ∀ k, k ≤ len → ∃ l : List α, l.length = k ∧ ∀ i v, l[i]? = some v → (∃ cs', w.cells? base (a.add (i * d.sz)) d.sz = some cs' ∧ d.K w v cs') ∧ wf v := by
      intro k
      induction k with
      | zero => exact fun _ => ⟨[], rfl, fun i v h => by simp at h⟩
      | succ k ih =>
        intro hk
        obtain ⟨l, hl1, hl2⟩ := ih (by omega)
        obtain ⟨v, hv⟩ := each k (by omega)
        refine ⟨l ++ [v], by simp [hl1], fun i u hu => ?_⟩
        by_cases hik : i < k
        · rw [List.getElem?_append_left (by omega)] at hu
          exact hl2 i u hu
        · have hlt := (List.getElem?_eq_some_iff.1 hu).1
          simp [hl1] at hlt
          obtain rfl : i = k := by omega
          rw [List.getElem?_append_right (by omega), hl1, Nat.sub_self] at hu
          simp at hu
          subst hu
          exact hv
    obtain ⟨l, hl1, hl2⟩ := all len (Nat.le_refl _)
    refine ⟨l, ⟨some a, cap, by rw [hl1], by omega, ⟨rfl, by unfold maxLen at hm; omega, fun _ => ⟨a, rfl, fun j p hp => ?_⟩⟩⟩, by omega, fun x hx => ?_⟩
    · obtain ⟨⟨cs', hcs, hK⟩, _⟩ := hl2 j p hp
      obtain ⟨_, hcl, hat⟩ := World.cells?_some hcs
      refine ⟨cs', d.K_len hK, hK, fun i u hu => ?_⟩
      have hlt := (List.getElem?_eq_some_iff.1 hu).1
      have := hat i (by omega)
      rw [← Go.Deep.add_add, this, hu]
    · obtain ⟨i, hi'⟩ := List.getElem?_of_mem hx
      exact (hl2 i x hi').2
/-- The fields from a place on. -/
structure OpensF {α : Type} (P : Program) (fs : Array Field) (off tot : Nat) (d : Kd α) (wf : α → Prop) : Prop where
  out : ∀ {H : Type} {enc : TypeId × Value → H} {w : World} {base : Nat} {spare : Nat → Bool} {held : Bool} {n : Nat} {cs : List Value}, cs.length = tot →
    (∀ (j : Nat) (f : Field), fs[j]? = some f → ∃ y, DataW.trod enc P w base spare held n f.type ((cs.drop f.offset).take (P.cellsOf f.type)) = some y) → ∃ v : α, d.K w v (cs.drop off) ∧ wf v
theorem opensF_last {α : Type} {P : Program} {fs : Array Field} {off tot : Nat} {d : Kd α} {wf : α → Prop} (i : Nat) (f : Field) (hf : fs[i]? = some f) (ho : f.offset = off) (ht : off + P.cellsOf f.type = tot) (hd : Opens P f.type d wf) :
    OpensF P fs off tot d wf := by
  refine ⟨?_⟩
  intro H enc w base spare held n cs hl h
  obtain ⟨y, hy⟩ := h i f hf
  rw [ho, List.take_of_length_le (by rw [List.length_drop]; omega)] at hy
  exact hd.out hy
theorem opensF_cons {α β : Type} {P : Program} {fs : Array Field} {off tot : Nat} {d : Kd α} {wf : α → Prop} {d' : Kd β} {wf' : β → Prop} (i : Nat) (f : Field) (hf : fs[i]? = some f) (ho : f.offset = off) (hd : Opens P f.type d wf) (off' : Nat) (hoff : off + P.cellsOf f.type = off')
    (hr : OpensF P fs off' tot d' wf') : OpensF P fs off tot (Kd.pair d d') (fun p => wf p.1 ∧ wf' p.2) := by
  refine ⟨?_⟩
  intro H enc w base spare held n cs hl h
  obtain ⟨y, hy⟩ := h i f hf
  rw [ho] at hy
  obtain ⟨v, hv, hw⟩ := hd.out hy
  obtain ⟨v', hv', hw'⟩ := hr.out hl h
  refine ⟨(v, v'), ⟨_, _, ?_, hv, hv'⟩, hw, hw'⟩
  rw [← hoff, ← List.drop_drop, List.take_append_drop]
theorem opens_struct {α β : Type} {P : Program} {t : TypeId} {fs : Array Field} {tot : Nat} {d : Kd α} {wf : α → Prop} (f : β → α) (g : α → β) (hfg : ∀ x, f (g x) = x) (ht : P.underlying t = some (.struct fs)) (hc : P.cellsOf t = tot) (h : OpensF P fs 0 tot d wf) :
    Opens P t (Kd.iso d f) (fun b => wf (f b)) := by
  refine ⟨?_⟩
  intro H enc w base spare held fuel cs x hx
  obtain ⟨xs, n, _, _, hlen, hsz, hat⟩ := DataW.trod_struct ht hx
  obtain ⟨v, hv, hw⟩ := h.out (w := w) (enc := enc) (base := base) (spare := spare) (held := held) (n := n) (cs := cs) (hlen.trans hc) (fun j fl hj => by
    have hlt : j < xs.length := by
      have := (Array.getElem?_eq_some_iff.1 hj).1
      omega
    exact ⟨xs[j], (hat j fl hj).trans (List.getElem?_eq_getElem hlt)⟩)
  refine ⟨g v, ?_, ?_⟩
  · show d.K w (f (g v)) cs
    rw [hfg]
    exact hv
  · show wf (f (g v))
    rw [hfg]
    exact hw
/-- A slice argument, opened. -/
theorem arg_slice {α H : Type} {enc : TypeId × Value → H} {P : Program} {W : World} {base : Nat} {spare : Nat → Bool} {held : Bool} {t e : TypeId} {d : Kd α} {wf : List α → Prop} {a : Option Addr} {len cap : Nat} {x : DataW H} {ps : List MemPlace}
    (ho : Opens P t (Kd.slice e d) wf) (h : DataW.Trod enc P W base spare held t (.slice a len cap) x ps) :
    ∃ l : List α, len = l.length ∧ l.length ≤ cap ∧ Kd.C d W a l.length l ∧ wf l := by
  obtain ⟨fuel, hf⟩ := h
  obtain ⟨l, ⟨A, c, hcs, hl, hC⟩, hw⟩ := ho.out hf
  simp [Value.cells] at hcs
  obtain ⟨rfl, rfl, rfl⟩ := hcs
  exact ⟨l, rfl, hl, hC, hw⟩
/-- A struct argument, opened. -/
theorem arg_struct {α H : Type} {enc : TypeId × Value → H} {P : Program} {W : World} {base : Nat} {spare : Nat → Bool} {held : Bool} {t : TypeId} {d : Kd α} {wf : α → Prop} {cs : Array Value} {x : DataW H} {ps : List MemPlace}
    (ho : Opens P t d wf) (h : DataW.Trod enc P W base spare held t (.agg cs) x ps) : ∃ v : α, d.K W v cs.toList ∧ wf v := by
  obtain ⟨fuel, hf⟩ := h
  obtain ⟨v, hv, hw⟩ := ho.out hf
  exact ⟨v, by simpa [Value.cells] using hv, hw⟩
end Go.Proofs.Ytpdggpfobbkdnaa.Open
