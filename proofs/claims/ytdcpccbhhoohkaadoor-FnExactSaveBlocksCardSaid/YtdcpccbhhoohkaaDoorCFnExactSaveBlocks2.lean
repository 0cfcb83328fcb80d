/- Part 3 of the proof of FnExactSaveBlocksCardSaid: the functions that the law runs as plain Lean functions, the contracts of their calls, and plain facts about them. Condition: none beyond each theorem's own hypotheses. -/
import Derived.Test.YtdcpccbhhoohkaaDoorCFnExactSaveBlocks0
import Derived.Deep.Slices
import Derived.Deep.Fields
import Derived.ChangeSame
import Derived.ProofKit
import Derived.Test.YtdcpccbhhoohkaaDoorVFnExactSaveBlocksWords
import Derived.Test.YtdcpccbhhoohkaaDoorVFnExactSaveBlocksLast
import Derived.Test.YtdcpccbhhoohkaaDoorVFnExactSaveBlocksTab
import Derived.Test.YtdcpccbhhoohkaaDoorVFnExactSaveBlocksFour
import Derived.Test.YtdcpccbhhoohkaaDoorVFnExactSaveBlocksQPut
import Derived.Test.YtdcpccbhhoohkaaDoorVFnExactSaveBlocksApart
import Derived.Test.YtdcpccbhhoohkaaDoorVFnExactSaveBlocksArr
import Derived.Test.YtdcpccbhhoohkaaDoorVFnExactSaveBlocksZeros
import Derived.Test.YtdcpccbhhoohkaaDoorVFnExactSaveBlocksFoot
import Derived.Test.YtdcpccbhhoohkaaDoorVFnExactSaveBlocksKept
import Derived.Test.YtdcpccbhhoohkaaDoorVFnExactSaveBlocksShare
import Derived.Test.YtdcpccbhhoohkaaDoorVFnExactSaveBlocksN
import Derived.Test.YtdcpccbhhoohkaaDoorVFnExactSaveBlocksFootNe
import Derived.Test.YtdcpccbhhoohkaaDoorVFnExactSaveBlocksAt
import Derived.Test.YtdcpccbhhoohkaaDoorVFnExactSaveBlocksEqStruct
import Derived.Test.YtdcpccbhhoohkaaDoorVFnExactSaveBlocksRepsOne
import Derived.Test.YtdcpccbhhoohkaaDoorVFnExactSaveBlocksInv
import Derived.Test.YtdcpccbhhoohkaaDoorVFnExactSaveBlocksInvWords
import Derived.Test.YtdcpccbhhoohkaaDoorVFnExactSaveBlocksGuard
import Derived.Test.YtdcpccbhhoohkaaDoorVFnExactSaveBlocksNEv
import Derived.Test.YtdcpccbhhoohkaaDoorVFnExactSaveBlocksMore
import Derived.Test.YtdcpccbhhoohkaaDoorCFnExactSaveBlocks1
section
namespace Go.Proofs.YtdcpccbhhoohkaaDoor.A
open Go.RowKit Go.Proofs.YtdcpccbhhoohkaaDoorW.PrintWords Go.Proofs.YtdcpccbhhoohkaaDoorW.PrintLast
theorem Ev.all {α β : Type} (g : α → Nat → Option β) (v : α → β) : ∀ l : List α, (∀ z ∈ l, Ev (g z) (v z)) → ∃ n, ∀ k, n ≤ k → ∀ z ∈ l, g z k = some (v z)
  | [], _ => ⟨0, fun _ _ z hz => by simp at hz⟩
  | y :: l, h => by
    obtain ⟨n1, h1⟩ := h y List.mem_cons_self
    obtain ⟨n2, h2⟩ := Ev.all g v l fun z hz => h z (List.mem_cons_of_mem _ hz)
    refine ⟨max n1 n2, fun k hk z hz => ?_⟩
    rcases List.mem_cons.1 hz with rfl | hz
    · exact h1 k (by omega)
    · exact h2 k (by omega) z hz
def lineB (b : Blk) : ByteArray := fiveB (crcS (impl_SaveBlocks.rest b)) ++ (⟨#[32]⟩ : ByteArray) ++ impl_SaveBlocks.rest b ++ (⟨#[10]⟩ : ByteArray)
theorem rest_size (b : Blk) : (impl_SaveBlocks.rest b).size = b.f0.size + 1 + b.f1.size + 1 + b.f2.size := by
  unfold impl_SaveBlocks.rest
  rw [ByteArray.size_append, ByteArray.size_append, ByteArray.size_append, ByteArray.size_append]
  rfl
theorem lineB_size (b : Blk) : (lineB b).size = (impl_SaveBlocks.rest b).size + 7 := by
  unfold lineB
  rw [ByteArray.size_append, ByteArray.size_append, ByteArray.size_append, fiveB_size _ (crcS_lt _)]
  have e1 : (⟨#[32]⟩ : ByteArray).size = 1 := rfl
  have e2 : (⟨#[10]⟩ : ByteArray).size = 1 := rfl
  omega
theorem l29Line_ev (l : List Blk) (p : Nat) (hp : p < l.length) (hs : (impl_SaveBlocks.rest l[p]).size ≤ 1048576) : Ev (fun k => spec_l29Line.f k l (p : Int)) (lineB l[p]) := by
  simp only [spec_l29Line.f, rdB_at l p hp]
  generalize l[p] = b at hs ⊢
  have hr := rest_size b
  have e : b.f0 ++ (⟨#[32]⟩ : ByteArray) ++ b.f1 ++ (⟨#[32]⟩ : ByteArray) ++ b.f2 = impl_SaveBlocks.rest b := rfl
  have e1 : (⟨#[32]⟩ : ByteArray).size = 1 := rfl
  simp only [e]
  have h5 := fiveB_size _ (crcS_lt (impl_SaveBlocks.rest b))
  refine Ev.pos (by omega) (Ev.pos (by rw [ByteArray.size_append]; omega) (Ev.pos (by rw [ByteArray.size_append, ByteArray.size_append]; omega) (Ev.pos (by rw [ByteArray.size_append, ByteArray.size_append, ByteArray.size_append]; omega) ?_)))
  refine Ev.bind (l01Crc_ev _ (by omega)) (Ev.bind (l29Five_ev _ (crcS_lt _)) ?_)
  exact Ev.pos (by omega) (Ev.pos (by rw [ByteArray.size_append]; omega) (Ev.pos (by rw [ByteArray.size_append, ByteArray.size_append]; omega) (Ev.now _)))
theorem line_eq (k : Nat) (b : Blk) (h : impl_checkText.f k (impl_SaveBlocks.rest b) = some (fiveB (crcS (impl_SaveBlocks.rest b)))) : impl_SaveBlocks.line k b = lineB b := by
  unfold impl_SaveBlocks.line impl_SaveBlocks.ct lineB
  rw [h]
  rfl
theorem l29Save_l0 (l : List Blk) (hl : l.length ≤ 1048576) (hs : ∀ b ∈ l, (impl_SaveBlocks.rest b).size ≤ 1000000) : ∀ (d i : Nat) (acc : ByteArray), i + d = l.length → acc.size ≤ 1048576 + i * 1048576 →
    ∃ r : ByteArray, r.data.toList = acc.data.toList ++ (l.drop i).flatMap (fun z => (lineB z).data.toList) ∧ Ev (fun k => spec_l29Save.l0 k l acc (i : Int)) r := by
  intro d
  induction d with
  | zero =>
    intro i acc hi _
    refine ⟨acc, ?_, Ev.succ ?_⟩
    · rw [List.drop_eq_nil_of_le (by omega)]
      simp
    · simp only [spec_l29Save.l0]
      exact Ev.neg (by omega) (Ev.now _)
  | succ d ih =>
    intro i acc hi ha
    have hlt : i < l.length := by omega
    have hz := hs l[i] (List.getElem_mem hlt)
    have hsz := lineB_size l[i]
    obtain ⟨r, hr, he⟩ := ih (i + 1) (acc ++ lineB l[i]) (by omega) (by rw [ByteArray.size_append]; omega)
    refine ⟨r, ?_, Ev.succ ?_⟩
    · rw [hr, List.drop_eq_getElem_cons hlt, List.flatMap_cons]
      simp
    · simp only [spec_l29Save.l0, w64_succ hlt (by omega : l.length ≤ _)]
      exact Ev.pos (by omega) (Ev.pos (by omega) (Ev.bind (l29Line_ev l i hlt (by omega)) (Ev.pos (by omega) he)))
theorem SaveBlocks_ev (l : List Blk) (hl : l.length ≤ 1048576) (hf : ∀ b ∈ l, BFit b) (hb : blksOk l = true → ∀ b ∈ l, (impl_SaveBlocks.rest b).size ≤ 1000000) :
    ∃ (r : ByteArray) (c : Int), Ev (fun k => spec_SaveBlocks.f k l) (r, c) ∧ Ev (fun k => impl_SaveBlocks.f k l) (r, c) := by
  have a := l29Ok_ev l (by omega) hf
  obtain ⟨n0, b⟩ := ValidBlocks_ev l (by omega) hf
  simp only [spec_SaveBlocks.f]
  cases hr : blksOk l with
  | false =>
    rw [hr] at a b
    refine ⟨ByteArray.empty, 1, Ev.bind a (Ev.neg (by decide) (Ev.now _)), n0, fun k hk => ?_⟩
    simp only [impl_SaveBlocks.f, b k hk]
  | true =>
    rw [hr] at a b
    have hs := hb hr
    have hd := decB_size l.length
    have hn := nDigits_le 6 l.length (by omega)
    have hh : (impl_SaveBlocks.head (decB l.length)).size = 8 + (decB l.length).size + 1 := by
      unfold impl_SaveBlocks.head
      rw [ByteArray.size_append, ByteArray.size_append]
      rfl
    obtain ⟨r, hre, he⟩ := l29Save_l0 l hl hs l.length 0 (impl_SaveBlocks.head (decB l.length)) (by omega) (by omega)
    have hall : ∃ n1, ∀ k, n1 ≤ k → ∀ z ∈ l, impl_checkText.f k (impl_SaveBlocks.rest z) = some (fiveB (crcS (impl_SaveBlocks.rest z))) := by
      exact Ev.all (fun z k => impl_checkText.f k (impl_SaveBlocks.rest z)) _ l fun z hz => checkText_ev _ (by have := hs z hz; omega)
    obtain ⟨n1, hn1⟩ := hall
    refine ⟨r, 0, Ev.bind a (Ev.pos rfl (Ev.bind ?_ (Ev.now _))), max n0 n1, fun k hk => ?_⟩
    · simp only [spec_l29Save.f]
      refine Ev.bind (l01Dec_ev l.length (by omega)) (Ev.pos (by omega) (Ev.pos ?_ he))
      rw [ByteArray.size_append]
      have : (⟨#[97, 114, 99, 104, 105, 118, 101, 32]⟩ : ByteArray).size = 8 := rfl
      omega
    · have h0 := b k (by omega)
      have h1 := hn1 k (by omega)
      simp only [impl_SaveBlocks.f, h0, Decimal_eq l.length (by omega)]
      have hall : l.all (impl_SaveBlocks.fits k) = true := by
        refine List.all_eq_true.2 fun z hz => ?_
        unfold impl_SaveBlocks.fits
        rw [h1 z hz, line_eq k z (h1 z hz), lineB_size]
        have := hs z hz
        simp
        omega
      rw [if_pos ⟨hall, hl, by omega⟩]
      have e : (⟨(impl_SaveBlocks.flat k (decB l.length) l).toArray⟩ : ByteArray) = r := by
        refine bytes_ext ?_
        rw [toList_eq, toList_eq, hre]
        unfold impl_SaveBlocks.flat
        simp only [List.drop_zero]
        congr 1
        rw [List.flatMap_def, List.flatMap_def]
        congr 1
        exact List.map_congr_left fun z hz => by rw [line_eq k z (h1 z hz)]
      rw [e]
theorem okFromB_all (l : List Blk) : ∀ (d i : Nat), i + d = l.length → okFromB l d i = true → ∀ j (h : j < l.length), i ≤ j → blkOk l[j] = true := by
  intro d
  induction d with
  | zero => intro i hi _ j h hj; omega
  | succ d ih =>
    intro i hi ho j h hj
    simp only [okFromB, Bool.and_eq_true] at ho
    have hlt : i < l.length := by omega
    rw [List.getElem?_eq_getElem hlt] at ho
    simp only [Bool.and_eq_true] at ho
    obtain ⟨⟨h1, _⟩, h3⟩ := ho
    by_cases e : i = j
    · subst e
      exact h1
    · exact ih (i + 1) (by omega) h3 j h (by omega)
theorem rest_le (l : List Blk) (h : blksOk l = true) : ∀ b ∈ l, (impl_SaveBlocks.rest b).size ≤ 1000000 := by
  intro b hb
  unfold blksOk at h
  rw [Bool.and_eq_true] at h
  obtain ⟨j, hj, rfl⟩ := List.getElem_of_mem hb
  have hk := okFromB_all l l.length 0 (by omega) h.1 j hj (by omega)
  unfold blkOk isNm at hk
  simp only [Bool.and_eq_true, decide_eq_true_eq] at hk
  rw [rest_size]
  omega
theorem FnExactSaveBlocks : laws_FnExactSaveBlocks.Pure := by
  rintro l ⟨hl, hs⟩
  refine Ev.rounds (g := fun k => laws_FnExactSaveBlocks.f k l) ?_
  simp only [laws_FnExactSaveBlocks.f]
  obtain ⟨t, ht, _, hsz⟩ := szBlockS_ev l hl hs
  refine Ev.bind ht ?_
  by_cases hneg : t < 0
  · exact Ev.pos hneg (Ev.now _)
  refine Ev.neg hneg ?_
  obtain ⟨hl1, hs1⟩ := hsz (by omega)
  have hto := toBlockS_ev l hl1
  have hln : (l.map convB).length ≤ 1048576 := by rw [List.length_map]; exact hl1
  have hf := fit_map l 1048576 (by omega) hs1
  obtain ⟨r, c, h1, h2⟩ := SaveBlocks_ev (l.map convB) hln hf (rest_le _)
  refine Ev.bind hto (Ev.bind h1 (Ev.bind hto (Ev.bind h2 (Ev.pos rfl (Ev.succ ?_)))))
  simp only [laws_FnExactSaveBlocks.j0, bne_self_eq_false]
  exact Ev.neg (by decide) (Ev.bind hto (Ev.bind (eqBlockS_ev _ (by omega)) (Ev.pos rfl (Ev.now _))))
end Go.Proofs.YtdcpccbhhoohkaaDoor.A
end
section
namespace Go.Proofs.YtdcpccbhhoohkaaDoor.Open
open Go.ChangeShapes Go.WideShapes Go.Deep Go.RowKit Go.Proofs.YtdcpccbhhoohkaaDoorW.PrintWords
structure Opens {α : Type} (P : Program) (t : TypeId) (d : Kd α) (wf : α → Prop) : Prop where
  out : ∀ {H : Type} {enc : TypeId × Value → H} {w : World} {base : Nat} {spare : Nat → Bool} {held : Bool} {fuel : Nat} {cs : List Value} {x : DataW H × List MemPlace},
    DataW.trod enc P w base spare held fuel t cs = some x → ∃ v : α, d.K w v cs ∧ wf v
theorem opens_string {P : Program} {t : TypeId} (ht : P.underlying t = some .string) : Opens P t Kd.string (fun s => s.size ≤ maxLen) := by
  refine ⟨?_⟩
  intro H enc w base spare held fuel cs x h
  obtain ⟨s, rfl, _, hw⟩ := DataW.trod_string ht h
  exact ⟨s, rfl, hw⟩
theorem opens_slice {α : Type} {P : Program} {t e : TypeId} {d : Kd α} {wf : α → Prop} (ht : P.underlying t = some (.slice e)) (hd : Opens P e d wf) (hc : P.cellsOf e = d.sz) :
    Opens P t (Kd.slice e d) (fun l => l.length ≤ maxLen ∧ ∀ x ∈ l, wf x) := by
  refine ⟨?_⟩
  intro H enc w base spare held fuel cs x h
  rcases open_slice ht h with ⟨rfl, _⟩ | ⟨a, len, cap, m, n, D, Pl, rfl, _, hl, hm, hmm, _, hi⟩
  · exact ⟨[], ⟨none, 0, rfl, Nat.le_refl _, ⟨rfl, by simp, fun h => absurd h (by simp)⟩⟩, by simp⟩
  · have hlm : len ≤ m := by
      rw [hmm]
      split
      · exact hl
      · exact Nat.le_refl _
    have each : ∀ i, i < len → ∃ v : α, (∃ cs', w.cells? base (a.add (i * d.sz)) d.sz = some cs' ∧ d.K w v cs') ∧ wf v := by
      intro i hil
      obtain ⟨cs', h1, h2⟩ := hi i (by omega)
      obtain ⟨v, h3, h4⟩ := hd.out h2
      rw [hc] at h1
      exact ⟨v, ⟨cs', h1, h3⟩, h4⟩
    have all : ∀ k, k ≤ len → ∃ l : List α, l.length = k ∧ ∀ i v, l[i]? = some v → (∃ cs', w.cells? base (a.add (i * d.sz)) d.sz = some cs' ∧ d.K w v cs') ∧ wf v := by
      intro k
      induction k with
      | zero => exact fun _ => ⟨[], rfl, fun i v h => by simp at h⟩
      | succ k ih =>
        intro hk
        obtain ⟨l, hl1, hl2⟩ := ih (by omega)
        obtain ⟨v, hv⟩ := each k (by omega)
        refine ⟨l ++ [v], by simp [hl1], fun i u hu => ?_⟩
        by_cases hik : i < k
        · rw [List.getElem?_append_left (by omega)] at hu
          exact hl2 i u hu
        · have hlt := (List.getElem?_eq_some_iff.1 hu).1
          simp [hl1] at hlt
          obtain rfl : i = k := by omega
          rw [List.getElem?_append_right (by omega), hl1, Nat.sub_self] at hu
          simp at hu
          subst hu
          exact hv
    obtain ⟨l, hl1, hl2⟩ := all len (Nat.le_refl _)
    refine ⟨l, ⟨some a, cap, by rw [hl1], by omega, ⟨rfl, by unfold maxLen at hm; omega, fun _ => ⟨a, rfl, fun j p hp => ?_⟩⟩⟩, by omega, fun x hx => ?_⟩
    · obtain ⟨⟨cs', hcs, hK⟩, _⟩ := hl2 j p hp
      obtain ⟨_, hcl, hat⟩ := World.cells?_some hcs
      refine ⟨cs', d.K_len hK, hK, fun i u hu => ?_⟩
      have hlt := (List.getElem?_eq_some_iff.1 hu).1
      have := hat i (by omega)
      rw [← Go.Deep.add_add, this, hu]
    · obtain ⟨i, hi'⟩ := List.getElem?_of_mem hx
      exact (hl2 i x hi').2
structure OpensF {α : Type} (P : Program) (fs : Array Field) (off tot : Nat) (d : Kd α) (wf : α → Prop) : Prop where
  out : ∀ {H : Type} {enc : TypeId × Value → H} {w : World} {base : Nat} {spare : Nat → Bool} {held : Bool} {n : Nat} {cs : List Value}, cs.length = tot →
    (∀ (j : Nat) (f : Field), fs[j]? = some f → ∃ y, DataW.trod enc P w base spare held n f.type ((cs.drop f.offset).take (P.cellsOf f.type)) = some y) → ∃ v : α, d.K w v (cs.drop off) ∧ wf v
theorem opensF_last {α : Type} {P : Program} {fs : Array Field} {off tot : Nat} {d : Kd α} {wf : α → Prop} (i : Nat) (f : Field) (hf : fs[i]? = some f) (ho : f.offset = off) (ht : off + P.cellsOf f.type = tot) (hd : Opens P f.type d wf) :
    OpensF P fs off tot d wf := by
  refine ⟨?_⟩
  intro H enc w base spare held n cs hl h
  obtain ⟨y, hy⟩ := h i f hf
  rw [ho, List.take_of_length_le (by rw [List.length_drop]; omega)] at hy
  exact hd.out hy
theorem opensF_cons {α β : Type} {P : Program} {fs : Array Field} {off tot : Nat} {d : Kd α} {wf : α → Prop} {d' : Kd β} {wf' : β → Prop} (i : Nat) (f : Field) (hf : fs[i]? = some f) (ho : f.offset = off) (hd : Opens P f.type d wf) (off' : Nat) (hoff : off + P.cellsOf f.type = off')
    (hr : OpensF P fs off' tot d' wf') : OpensF P fs off tot (Kd.pair d d') (fun p => wf p.1 ∧ wf' p.2) := by
  refine ⟨?_⟩
  intro H enc w base spare held n cs hl h
  obtain ⟨y, hy⟩ := h i f hf
  rw [ho] at hy
  obtain ⟨v, hv, hw⟩ := hd.out hy
  obtain ⟨v', hv', hw'⟩ := hr.out hl h
  refine ⟨(v, v'), ⟨_, _, ?_, hv, hv'⟩, hw, hw'⟩
  rw [← hoff, ← List.drop_drop, List.take_append_drop]
theorem opens_struct {α β : Type} {P : Program} {t : TypeId} {fs : Array Field} {tot : Nat} {d : Kd α} {wf : α → Prop} (f : β → α) (g : α → β) (hfg : ∀ x, f (g x) = x) (ht : P.underlying t = some (.struct fs)) (hc : P.cellsOf t = tot) (h : OpensF P fs 0 tot d wf) :
    Opens P t (Kd.iso d f) (fun b => wf (f b)) := by
  refine ⟨?_⟩
  intro H enc w base spare held fuel cs x hx
  obtain ⟨xs, n, _, _, hlen, hsz, hat⟩ := DataW.trod_struct ht hx
  obtain ⟨v, hv, hw⟩ := h.out (w := w) (enc := enc) (base := base) (spare := spare) (held := held) (n := n) (cs := cs) (hlen.trans hc) (fun j fl hj => by
    have hlt : j < xs.length := by
      have := (Array.getElem?_eq_some_iff.1 hj).1
      omega
    exact ⟨xs[j], (hat j fl hj).trans (List.getElem?_eq_getElem hlt)⟩)
  refine ⟨g v, ?_, ?_⟩
  · show d.K w (f (g v)) cs
    rw [hfg]
    exact hv
  · show wf (f (g v))
    rw [hfg]
    exact hw
theorem arg_slice {α H : Type} {enc : TypeId × Value → H} {P : Program} {W : World} {base : Nat} {spare : Nat → Bool} {held : Bool} {t e : TypeId} {d : Kd α} {wf : List α → Prop} {a : Option Addr} {len cap : Nat} {x : DataW H} {ps : List MemPlace}
    (ho : Opens P t (Kd.slice e d) wf) (h : DataW.Trod enc P W base spare held t (.slice a len cap) x ps) :
    ∃ l : List α, len = l.length ∧ l.length ≤ cap ∧ Kd.C d W a l.length l ∧ wf l := by
  obtain ⟨fuel, hf⟩ := h
  obtain ⟨l, ⟨A, c, hcs, hl, hC⟩, hw⟩ := ho.out hf
  simp [Value.cells] at hcs
  obtain ⟨rfl, rfl, rfl⟩ := hcs
  exact ⟨l, rfl, hl, hC, hw⟩
end Go.Proofs.YtdcpccbhhoohkaaDoor.Open
end
