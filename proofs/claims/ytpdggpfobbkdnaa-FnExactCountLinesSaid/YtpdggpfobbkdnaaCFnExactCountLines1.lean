/- Part 2 of the proof of FnExactCountLinesSaid: the functions that the law runs as plain Lean functions, the contracts of their calls, and plain facts about them. Condition: none beyond each theorem's own hypotheses. -/
import Derived.Test.YtpdggpfobbkdnaaVFnExactCountLinesWords
import Derived.Test.YtpdggpfobbkdnaaVFnExactCountLinesLast
import Derived.Test.YtpdggpfobbkdnaaVFnExactCountLinesTab
import Derived.Test.YtpdggpfobbkdnaaVFnExactCountLinesFour
import Derived.Test.YtpdggpfobbkdnaaVFnExactCountLinesQPut
import Derived.Test.YtpdggpfobbkdnaaVFnExactCountLinesApart
import Derived.Test.YtpdggpfobbkdnaaVFnExactCountLinesArr
import Derived.Test.YtpdggpfobbkdnaaVFnExactCountLinesZeros
import Derived.Test.YtpdggpfobbkdnaaVFnExactCountLinesFoot
import Derived.Test.YtpdggpfobbkdnaaVFnExactCountLinesKept
import Derived.Test.YtpdggpfobbkdnaaVFnExactCountLinesShare
import Derived.Test.YtpdggpfobbkdnaaVFnExactCountLinesN
import Derived.Test.YtpdggpfobbkdnaaVFnExactCountLinesFootNe
import Derived.Test.YtpdggpfobbkdnaaVFnExactCountLinesAt
import Derived.Test.YtpdggpfobbkdnaaVFnExactCountLinesEqStruct
import Derived.Test.YtpdggpfobbkdnaaVFnExactCountLinesRepsOne
import Derived.Test.YtpdggpfobbkdnaaVFnExactCountLinesInv
import Derived.Test.YtpdggpfobbkdnaaVFnExactCountLinesInvWords
import Derived.Test.YtpdggpfobbkdnaaVFnExactCountLinesGuard
import Derived.Test.YtpdggpfobbkdnaaVFnExactCountLinesNEv
import Derived.Test.YtpdggpfobbkdnaaVFnExactCountLinesMore
import Derived.Sort.Walk0
import Derived.Deep.Slices
import Derived.Deep.Fields
import Derived.ChangeSame
import Derived.ProofKit
import Derived.Test.YtpdggpfobbkdnaaCFnExactCountLines0
section
namespace Go.Proofs.Ytpdggpfobbkdnaa.A
open Go.RowKit Go.Proofs.YtpdggpfobbkdnaaW.PrintWords Go.Proofs.YtpdggpfobbkdnaaW.PrintLast Go.Proofs.YtpdggpfobbkdnaaW.PrintMore
attribute [local go_sem] max2_int min2_int max_two min_two max_three min_three max_four min_four   -- for this text's walks alone
set_option linter.unusedVariables false
set_option linter.unusedSimpArgs false
section
open Go.Shelf Go.Sort Go.Maps Go.WideMaps
theorem impl_CountLines.law : Keyed Try.prog 9 := string_keyed Try.underlying9
theorem impl_CountLines.zeroI (w : World) : (zeroValue 2).run Try.prog w = .ok (.int .i64 0) w := by kernel_rfl
theorem impl_CountLines.infoI : (Try.prog.info? 2).map (fun i => (i.zero, i.size, i.bytes)) = some (some (.int .i64 0), 1, 8) := by kernel_rfl
def impl_CountLines.Is (D : DataW Unit) (l : List (List UInt8)) : Prop := IsMap D ∧ (∀ x, D.atKey (.string x) (.lit (.int .i64 0)) = .lit (.int .i64 (l.count x))) ∧ ∀ x, has D (.string x) = l.contains x
theorem impl_CountLines.Is.none : impl_CountLines.Is (.map []) [] := ⟨isMap_empty, fun x => by rw [atKey_of_not_has (by rfl)]; rfl, fun x => rfl⟩
theorem impl_CountLines.Is.put {D : DataW Unit} {l : List (List UInt8)} (h : impl_CountLines.Is D l) (x : List UInt8) : impl_CountLines.Is (D.put (.string x) (.lit (.int .i64 (((l.count x : Nat) : Int) + 1)))) (l ++ [x]) := by
  obtain ⟨h1, h2, h3⟩ := h
  refine ⟨h1.put _ _, fun y => ?_, fun y => ?_⟩
  · by_cases e : y = x
    · subst e
      rw [atKey_put_same (k := .string y) h1 trivial]
      simp
    · rw [atKey_put_other (by simpa using e), h2 y, List.count_append, List.count_singleton]
      simp [Ne.symm e]
  · by_cases e : y = x
    · subst e
      rw [has_put_same (k := .string y) h1 trivial]
      simp
    · rw [has_put_other (by simpa using e), h3 y]
      simp [e]
def impl_CountLines.dd : List (List UInt8) → List (List UInt8)
  | [] => []
  | x :: l => if x ∈ l then impl_CountLines.dd l else x :: impl_CountLines.dd l
theorem impl_CountLines.mem_dd (y : List UInt8) : ∀ l, y ∈ impl_CountLines.dd l ↔ y ∈ l
  | [] => by simp [impl_CountLines.dd]
  | x :: l => by
    have ih := impl_CountLines.mem_dd y l
    unfold impl_CountLines.dd
    by_cases h : x ∈ l
    · rw [if_pos h, ih, List.mem_cons]
      constructor
      · exact .inr
      · rintro (rfl | h2)
        · exact h
        · exact h2
    · rw [if_neg h, List.mem_cons, List.mem_cons, ih]
theorem impl_CountLines.nodup_dd : ∀ l, (impl_CountLines.dd l).Nodup
  | [] => List.nodup_nil
  | x :: l => by
    have ih := impl_CountLines.nodup_dd l
    unfold impl_CountLines.dd
    by_cases h : x ∈ l
    · rw [if_pos h]
      exact ih
    · rw [if_neg h, List.nodup_cons]
      exact ⟨fun hm => h ((impl_CountLines.mem_dd x l).1 hm), ih⟩
def impl_CountLines.keys (l : List (List UInt8)) : List (List UInt8) := (impl_CountLines.dd l).mergeSort (fun x y => decide (x ≤ y))
def impl_CountLines.f (k : Nat) (l0 : List ByteArray) : Option (List ByteArray × List Int × Int) :=
  match impl_ValidReport.f k l0 with
  | some true => if l0.length ≤ 1048576 ∧ (∀ z ∈ l0, z.size ≤ 1048576) then some ((impl_CountLines.keys (l0.map fun z => z.data.toList)).map (fun l => (⟨l.toArray⟩ : ByteArray)), (impl_CountLines.keys (l0.map fun z => z.data.toList)).map (fun x => (((l0.map fun z => z.data.toList).count x : Nat) : Int)), 0) else none
  | some false => some ([], [], 1)
  | none => none
theorem impl_CountLines.mono : ∀ a0 k, LeO (impl_CountLines.f k a0) (impl_CountLines.f (k + 1) a0) := by
  intro a0 k
  unfold impl_CountLines.f
  have hm := impl_ValidReport.mono a0 k
  intro r h
  cases hv : impl_ValidReport.f k a0 with
  | none =>
    rw [hv] at h
    exact absurd h (by simp)
  | some b =>
    rw [hm b hv]
    rw [hv] at h
    exact h
set_option maxHeartbeats 1000000 in
theorem impl_CountLines.sortedKeys (b nn : Nat) (D0 : DataW Unit) (w : World) (hown : w.ownsMap Try.prog 9 (plainElem Try.prog 2) b nn D0) (hmax : Maps.size D0 ≤ maxLen) (hbytes : Maps.size D0 * 16 ≤ 140737488355328) :
    CallsIn Fence.wide 5 Try.prog 85 #[.func (.func 114) #[] #[.pointer (some ⟨w.heap.size, 0, none⟩)]] (w.alloc (.cells #[.map (some b)] 107)) fun e w' => ∃ (v : Value) (ss : List (List UInt8)), e = .returned v ∧ ss.Perm (strKeys D0) ∧
      w'.ownsRow (w.alloc (.cells #[.map (some b)] 107)).heap.size 9 1 v ss.length ((ss.mergeSort (fun x y => decide (x ≤ y))).map encStr) ∧ (v = .slice none 0 0 ↔ ss = []) ∧ Below (w.alloc (.cells #[.map (some b)] 107)).heap.size (w.alloc (.cells #[.map (some b)] 107)) w' := by
  have hbl := hown.lt
  have hseq : SeqGives Fence.wide 2 Try.prog 114 #[.pointer (some ⟨w.heap.size, 0, none⟩)] encStr (fun ss => ss.Perm (strKeys D0)) (Maps.size D0) (w.alloc (.cells #[.map (some b)] 107)) :=
    AnyZ.keys_gives (ρ := Try.keys90_ren) { Try.keys90 with } Fence.wide _ trivial rfl (by omega) w.heap.size b nn D0 _ (by simp) (by simp) (by
      obtain ⟨es, clock, hb, Ft, hs, hD⟩ := hown
      exact ⟨es, clock, (Below.heap_alloc _ _ b hbl).trans hb, Ft, hs, hD⟩)
  exact AnyZ.sorted_in Try.sorted85 Fence.wide 5 trivial trivial trivial trivial rfl (by omega) (Try.sorts85 _) (enters_of Try.func110 (by kernel_rfl) rfl) 114 #[.pointer (some ⟨w.heap.size, 0, none⟩)] trivial (enters_of Try.func114 (by kernel_rfl) rfl) _ _ hmax hbytes _ hseq
theorem impl_CountLines.keys_eq {w : World} {b nn : Nat} {D : DataW Unit} {l ss : List (List UInt8)} (hown : w.ownsMap Try.prog 9 (plainElem Try.prog 2) b nn D) (h : impl_CountLines.Is D l) (hp : ss.Perm (strKeys D)) : ss.mergeSort (fun x y => decide (x ≤ y)) = impl_CountLines.keys l := by
  obtain ⟨es, hD, hpw, _⟩ := hown.entries impl_CountLines.law
  obtain ⟨es', hD', hko⟩ := hown.keysOf
  obtain rfl : es = es' := by rw [hD] at hD'; simpa using hD'
  subst hD
  have hq : (impl_CountLines.dd l).Perm (strKeys (.map es)) := perm_strKeys hpw (fun p hp => by obtain ⟨v, hv⟩ := hko p hp; obtain ⟨x, _, hx, _⟩ := Maps.keyOf_str Try.underlying9 hv; exact ⟨x, hx⟩) (impl_CountLines.nodup_dd l) (fun x => by rw [h.2.2 x, impl_CountLines.mem_dd, List.contains_iff_mem])
  exact mergeSort_of_perm (hp.trans hq.symm)
theorem impl_CountLines.keysCall (mb : Option Nat) (W : World) : Calls Try.prog 90 #[.map mb] W fun e w' => e = .returned (.func (.func 114) #[] #[.pointer (some ⟨W.heap.size, 0, none⟩)]) ∧ w' = W.alloc (.cells #[.map mb] 107) :=
  callsIn_wide.1 (AnyZ.keys_in Try.keys90 Fence.wide 5 trivial rfl mb W)
theorem impl_CountLines.map_below {w w1 : World} {b n : Nat} {D : DataW Unit} (h : w.ownsMap Try.prog 9 (plainElem Try.prog 2) b n D) (hb : Below w.heap.size w w1) : w1.ownsMap Try.prog 9 (plainElem Try.prog 2) b n D := by
  have hbl := h.lt
  obtain ⟨es, clock, hx, Ft, hs, hD⟩ := h
  exact ⟨es, clock, (hb.block b hbl).trans hx, Ft, hs, hD⟩
theorem impl_CountLines.mem_keys {l : List (List UInt8)} {x : List UInt8} (h : x ∈ impl_CountLines.keys l) : x ∈ l := by
  unfold impl_CountLines.keys at h
  rw [List.mem_mergeSort] at h
  exact (impl_CountLines.mem_dd x l).1 h
set_option maxRecDepth 100000 in
set_option maxHeartbeats 2000000 in
theorem impl_CountLines.calls (k : Nat) (A0 : Option Addr) (c0 : Nat) (l0 : List ByteArray) (r1 : List ByteArray) (r2 : List Int) (r3 : Int) (w : World) (hr0 : Kd.C Kd.string w A0 l0.length l0) (hc0 : l0.length ≤ c0) (h : impl_CountLines.f k l0 = some (r1, r2, r3)) :
    Calls Try.prog 56 #[.slice A0 l0.length c0] w fun e w' => ∃ v0_ v1_ : Value, e = .returned (.tuple #[v0_, v1_, .int .i64 r3]) ∧ Kd.R Kd.string 9 w' w.heap.size (fun _ => True) v0_ r1 ∧ Kd.R (Kd.int .i64) 2 w' w.heap.size (fun _ => True) v1_ r2 ∧ Below w.heap.size w w' := by
  unfold impl_CountLines.f at h
  cases hv : impl_ValidReport.f k l0 with
  | none =>
    rw [hv] at h
    exact absurd h (by simp)
  | some b =>
    rw [hv] at h
    have hval := impl_ValidReport.calls k A0 c0 l0 b w hr0 hc0 hv
    cases b with
    | false =>
      obtain ⟨rfl, rfl, rfl⟩ : r1 = [] ∧ r2 = [] ∧ r3 = 1 := by simpa [eq_comm] using h
      go_enter Try.func56, Try.ntmps56
      go_wp2_with (first | (go_at_call 59; (refine hval.mono ?_); rintro e w' ⟨rfl, ⟨nd, rfl⟩⟩))
      go_ret3
      exact ⟨_, _, rfl, Kd.R_nil _ _ _ _ _, Kd.R_nil _ _ _ _ _, pw_below_drewN (Below.refl _ _) _⟩
    | true =>
      by_cases hc : l0.length ≤ 1048576 ∧ (∀ z ∈ l0, z.size ≤ 1048576)
      · have h : (if l0.length ≤ 1048576 ∧ (∀ z ∈ l0, z.size ≤ 1048576) then some ((impl_CountLines.keys (l0.map fun z => z.data.toList)).map (fun l => (⟨l.toArray⟩ : ByteArray)), (impl_CountLines.keys (l0.map fun z => z.data.toList)).map (fun x => (((l0.map fun z => z.data.toList).count x : Nat) : Int)), (0 : Int)) else none) = some (r1, r2, r3) := h
        rw [if_pos hc] at h
        have hrr := Option.some.inj h
        clear h
        obtain ⟨hl, hz⟩ := hc
        have hrd := Kd.reads_of_C (d := ByteArray.empty) hr0
        have hmx : (140737488351232 : Nat) ≤ maxLen := by decide
        obtain ⟨i0, hi, hz0, hz1, hz2⟩ := info_parts impl_CountLines.infoI
        have hmm := @run_makeMap Try.prog
        obtain ⟨bs, hbs⟩ : ∃ bs, bs = l0.map fun z => z.data.toList := ⟨_, rfl⟩
        have hbl : bs.length = l0.length := by rw [hbs, List.length_map]
        rw [← hbs] at hrr
        have HBS := Aside0.mk hbs
        clear hbs
        go_enter Try.func56, Try.ntmps56
        go_wp2_with (first | (go_at_call 59; (refine hval.mono ?_); rintro e w' ⟨rfl, ⟨nd, rfl⟩⟩))
        have hB0 : Below w.heap.size w ((w.drewN nd).alloc (.map #[] 0)) := pw_below_drewN (Below.refl _ _) nd |> fun h => h.alloc (by simp) _
        go_loopw [18] (fun i wr => ∃ (j : Nat) (D : DataW Unit), j ≤ l0.length ∧ i = .int .i64 j ∧ wr.ownsMap Try.prog 9 (plainElem Try.prog 2) w.heap.size j D ∧ impl_CountLines.Is D (bs.take j) ∧ Below w.heap.size w wr)
          (fun i _ => l0.length - (intOf i).toNat)
        case atStart => exact ⟨0, .map [], Nat.zero_le _, rfl, World.ownsMap_made (w.drewN nd) _ _ _, by rw [List.take_zero]; exact impl_CountLines.Is.none, hB0⟩
        case round =>
          obtain ⟨j, D, hj, rfl, hown, hIs, hnx⟩ := hrel
          by_cases hlt : j < l0.length
          · obtain ⟨ad, rfl, hcc⟩ := hrd.2.2 (by omega)
            have hcx : wr.cell? (ad.add j) = some (.string l0[j]) := by
              have h1 := hcc j hlt
              rw [List.getD_eq_getElem?_getD, List.getElem?_eq_getElem hlt] at h1
              exact pw_cell_below hnx h1
            have hzj := hz _ (List.getElem_mem hlt)
            have htk : bs.take (j + 1) = bs.take j ++ [l0[j].data.toList] := by
              rw [List.take_succ_eq_append_getElem (by omega)]
              rw [← List.getElem_map (fun z : ByteArray => z.data.toList) (h := by rw [List.length_map]; exact hlt)]
              simp only [HBS.out]
            revert hcx hzj htk
            generalize l0[j] = z
            intro hcx hzj htk
            have hkey : keyOf Try.prog 9 (.string z) = some (.string z.data.toList) := keyOf_string_mk Try.underlying9 (by omega)
            have hcn : (bs.take j).count z.data.toList ≤ j := by
              refine Nat.le_trans (List.count_le_length ..) ?_
              rw [List.length_take]
              omega
            have hput := hIs.put z.data.toList
            rw [← htk] at hput
            have hat0 := hIs.2.1 z.data.toList
            revert hcn hput hat0
            generalize (bs.take j).count z.data.toList = q
            intro hcn hput hat0
            have hwq : wrap64 ((q : Int) + 1) = (q : Int) + 1 := IntWalk.wrap64_in _ (by omega)
            go_wp2_with (first
              | (at_lookup; refine wpList_lookup_own_int _ rfl _ _ 107 rfl 9 2 .i64 impl_CountLines.law Try.underlying107 Try.underlying2 (impl_CountLines.zeroI _) w.heap.size j D rfl hown _ _ rfl hkey ?_; intro c hat hwc; obtain rfl : c = (q : Int) := by rw [hat0] at hat; simpa using hat.symm)
              | (at_mapUpdate; refine wpList_mapUpdate_own _ rfl _ _ _ 107 rfl 9 2 impl_CountLines.law Try.underlying107 _ w.heap.size j D rfl hown (by omega) _ _ _ rfl rfl hkey (.lit (.int .i64 ((q : Int) + 1))) [] (by exact plainElem_int Try.underlying2 (WalkArith.wf_i64 (by omega))) ?_; intro w2 hown2 hgr2))
            go_wp2
            go_roundw
            case rel => exact ⟨j + 1, _, by omega, by simp, hown2, hput, hnx.grown hgr2 hnx.size (fun x hx => by cases hx; exact Nat.le_refl _)⟩
            case measure => simp [intOf]; omega
          · obtain rfl : j = l0.length := by omega
            rw [← hbl, List.take_length] at hIs
            have hsz := hown.size_le
            go_wp2_with (first
              | (go_at_call 90; (refine (impl_CountLines.keysCall (some w.heap.size) wr).mono ?_); rintro e w' ⟨rfl, rfl⟩)
              | (go_at_call 85; (refine (callsIn_wide.1 (impl_CountLines.sortedKeys w.heap.size _ D wr hown (by omega) (by omega))).mono ?_); rintro e w3 ⟨v1, ss, rfl, hp, hrow, hnil, hb3⟩; obtain ⟨A1, c1, rfl⟩ : ∃ A c, v1 = .slice A ss.length c := (by rcases hrow.2 with ⟨rfl, h0⟩ | ⟨g, cap, cur, rfl, _⟩; exact ⟨none, 0, by rw [h0]⟩; exact ⟨_, _, rfl⟩)))
            have hke := impl_CountLines.keys_eq hown hIs hp
            rw [hke] at hrow
            have hls : ss.length = (impl_CountLines.keys bs).length := by rw [← hke]; exact (List.length_mergeSort _).symm
            have hnx3 : Below w.heap.size w w3 := (hnx.alloc hnx.size _).trans (hb3.mono (by have := hnx.size; simp; omega))
            have hown3 := impl_CountLines.map_below (impl_CountLines.map_below hown ((Below.refl _ _).alloc (Nat.le_refl _) (Obj.cells #[Value.map (some w.heap.size)] 107))) hb3
            have hmem : ∀ x ∈ impl_CountLines.keys bs, x.length ≤ 1048576 := fun x hx => by
              have h1 := impl_CountLines.mem_keys hx
              rw [HBS.out] at h1
              obtain ⟨z, hzl, rfl⟩ := List.mem_map.1 h1
              have : z.data.toList.length = z.size := Nat.add_zero _
              have := hz z hzl
              omega
            have hkl : (impl_CountLines.keys bs).length ≤ 1048576 := by
              have h1 := hp.length_eq
              have h2 : (strKeys D).length = Maps.size D := by
                obtain ⟨es, rfl⟩ := hIs.1
                simp [strKeys, Maps.size]
              omega
            rw [hls] at hrow ⊢
            clear hnil hp hke hls
            obtain ⟨rfl, rfl, rfl⟩ : (impl_CountLines.keys bs).map (fun l => (⟨l.toArray⟩ : ByteArray)) = r1 ∧ (impl_CountLines.keys bs).map (fun x => ((bs.count x : Nat) : Int)) = r2 ∧ 0 = r3 := by simpa using hrr
            clear hrr
            revert hrow hmem hkl
            generalize hks : impl_CountLines.keys bs = ks
            intro hrow hmem hkl
            have hR1 : Kd.R Kd.string 9 w3 (wr.alloc (Obj.cells #[Value.map (some w.heap.size)] 107)).heap.size (fun _ => True) (.slice A1 ks.length c1) (ks.map (fun l => (⟨l.toArray⟩ : ByteArray))) := by
              refine Kd.R_of_own (enc := Value.string) ?_ (fun _ _ => trivial)
              have e : encs Value.string (ks.map (fun l => (⟨l.toArray⟩ : ByteArray))) = ks.map encStr := by simp [encs, List.map_map, Function.comp_def]
              rw [e, List.length_map]
              exact hrow
            obtain ⟨A2, c2, e2, hc1, hC1⟩ := Kd.R_reads hR1
            injection e2 with ea eb ec
            clear eb
            subst ea
            subst ec
            have hrd1 := Kd.reads_of_C (d := ByteArray.empty) hC1
            rw [List.length_map] at hrd1
            have hle : w.heap.size ≤ (wr.alloc (Obj.cells #[Value.map (some w.heap.size)] 107)).heap.size := by
              rw [World.size_alloc]
              have := hnx.size
              omega
            go_loopw [9, 32] (fun v i wr2 => ∃ j : Nat, j ≤ ks.length ∧ i = .int .i64 j ∧ wr2.ownsRow w3.heap.size 2 1 v j (((ks.map fun x => ((bs.count x : Nat) : Int)).take j).map (Value.int .i64)) ∧ Below w3.heap.size w3 wr2)
              (fun _ i _ => ks.length - (intOf i).toNat)
            case atStart => exact ⟨0, Nat.zero_le _, rfl, by simpa using World.ownsRow_nil _ _ _ _, Below.refl _ _⟩
            case round =>
              obtain ⟨j, hj, rfl, hrow2, hnx2⟩ := hrel
              by_cases hlt : j < ks.length
              · obtain ⟨ad, rfl, hcc⟩ := hrd1.2.2 (by omega)
                have hcx : wr.cell? (ad.add j) = some (.string ⟨ks[j].toArray⟩) := by
                  have h1 := hcc j hlt
                  rw [List.getD_eq_getElem?_getD, List.getElem?_eq_getElem (by rw [List.length_map]; exact hlt)] at h1
                  have h2 := pw_cell_below hnx2 h1
                  simpa using h2
                have hsk := hmem _ (List.getElem_mem hlt)
                have htk : ((ks.map fun x => ((bs.count x : Nat) : Int)).take (j + 1)).map (Value.int .i64) = ((ks.map fun x => ((bs.count x : Nat) : Int)).take j).map (Value.int .i64) ++ [.int .i64 ((bs.count ks[j] : Nat) : Int)] := by
                  rw [List.take_succ_eq_append_getElem (by simpa using hlt)]
                  simp
                have hat0 := hIs.2.1 ks[j]
                revert hcx hsk htk hat0
                generalize ks[j] = x
                intro hcx hsk htk hat0
                have hkey : keyOf Try.prog 9 (.string ⟨x.toArray⟩) = some (.string x) := by
                  have h1 := keyOf_string_mk (P := Try.prog) (k := 9) Try.underlying9 (s := ⟨x.toArray⟩) (by simp only [ByteArray.size, List.size_toArray]; omega)
                  simpa using h1
                have hown4 := impl_CountLines.map_below hown3 hnx2
                go_wp2_with (first
                  | (at_lookup; refine wpList_lookup_own_int _ rfl _ _ 107 rfl 9 2 .i64 impl_CountLines.law Try.underlying107 Try.underlying2 (impl_CountLines.zeroI _) w.heap.size _ D rfl hown4 _ _ rfl hkey ?_; intro c hat hwc; obtain rfl : c = ((bs.count x : Nat) : Int) := by rw [hat0] at hat; simpa using hat.symm)
                  | (at_builtin; refine wpList_append_own _ rfl _ _ 24 rfl w3.heap.size 2 i0 (.int .i64 0) 1 8 Try.underlying24 hi hz0 hz1 hz2 rfl (by decide) _ _ _ rfl (hrow2.alloc _) ⟨wr.heap.size, 0, none⟩ 1 1 [.int .i64 ((bs.count x : Nat) : Int)] rfl rfl (cell_one_new _ _ _) (by simp [Value.oneCell']) (by omega) (by omega) (by have := hnx2.size; simp; omega) ?_; intro v' w4 hown' hgrow _))
                go_wp2
                go_roundw
                case rel => exact ⟨j + 1, by omega, by simp, by rw [htk]; exact hown', (hnx2.alloc hnx2.size _).grown hgrow (by have := hnx2.size; simp; omega) (fun q hq => (hrow2.lt q hq).1)⟩
                case measure => simp [intOf]; omega
              · obtain rfl : j = ks.length := by omega
                have e1 : (ks.map fun x => ((bs.count x : Nat) : Int)).take ks.length = ks.map fun x => ((bs.count x : Nat) : Int) := List.take_of_length_le (by simp)
                rw [e1] at hrow2
                go_wp2
                go_ret3
                rw [hks]
                refine ⟨_, _, rfl, Kd.R_lower (Kd.R_below hR1 hnx2) hle, ?_, hnx3.trans (hnx2.mono hnx3.size)⟩
                refine Kd.R_lower (Kd.R_of_own (enc := Value.int .i64) (xs := ks.map fun x => ((bs.count x : Nat) : Int)) ?_ (fun _ _ => trivial)) hnx3.size
                rw [List.length_map]
                exact hrow2
      · have h : (if l0.length ≤ 1048576 ∧ (∀ z ∈ l0, z.size ≤ 1048576) then some ((impl_CountLines.keys (l0.map fun z => z.data.toList)).map (fun l => (⟨l.toArray⟩ : ByteArray)), (impl_CountLines.keys (l0.map fun z => z.data.toList)).map (fun x => (((l0.map fun z => z.data.toList).count x : Nat) : Int)), (0 : Int)) else none) = some (r1, r2, r3) := h
        rw [if_neg hc] at h
        exact absurd h (by simp)
end
end Go.Proofs.Ytpdggpfobbkdnaa.A
end
section
namespace Go.Proofs.Ytpdggpfobbkdnaa.A
open Go.RowKit Go.Proofs.YtpdggpfobbkdnaaW.PrintWords Go.Proofs.YtpdggpfobbkdnaaW.PrintLast Go.Proofs.YtpdggpfobbkdnaaW.PrintMore
attribute [local go_sem] max2_int min2_int max_two min_two max_three min_three max_four min_four   -- for this text's walks alone
set_option linter.unusedVariables false
set_option linter.unusedSimpArgs false
mutual
def laws_FnExactCountLines.j0 : Nat → List ByteArray → List ByteArray → List Int → Int → List ByteArray → List ByteArray → List Int → Int → Bool → Option (Bool)
  | 0, _, _, _, _, _, _, _, _, _ => none
  | k + 1, x0, x4, x5, x6, x7, x8, x9, x10, x51 => if x51 = true then (some false) else ((laws_toStringS.f k x0).bind fun t124 => ((laws_eqStringS.f k x7 t124).bind fun t127 => (if t127 = true then ((laws_markStringS.f k x7 1).bind fun bt128 => (if bt128.1 < 0 then (laws_FnExactCountLines.j1 k x0 x4 x5 x6 x8 x9 true) else ((laws_eqStringS.f k x8 x4).bind fun t130 => (if t130 = true then ((laws_eqInt64S.f k x9 x5).bind fun t131 => (if t131 = true then (laws_FnExactCountLines.j1 k x0 x4 x5 x6 x8 x9 (x10 != x6)) else (laws_FnExactCountLines.j1 k x0 x4 x5 x6 x8 x9 true))) else (laws_FnExactCountLines.j1 k x0 x4 x5 x6 x8 x9 true))))) else (some false))))
def laws_FnExactCountLines.j1 : Nat → List ByteArray → List ByteArray → List Int → Int → List ByteArray → List Int → Bool → Option (Bool)
  | 0, _, _, _, _, _, _, _ => none
  | k + 1, x0, x4, x5, x6, x8, x9, x78 => if x78 = true then (some false) else ((laws_markStringS.f k x8 1).bind fun bt132 => ((laws_markInt64S.f k x9 bt132.1).bind fun bt134 => ((laws_heldStringS.f k bt132.2 1).bind fun t136 => (if t136 < 0 then (some false) else ((laws_heldInt64S.f k bt134.2 t136).bind fun t137 => (if t137 < 0 then (some false) else (if t137 = bt134.1 then ((laws_toStringS.f k x0).bind fun t138 => ((impl_CountLines.f k t138).bind fun bt141 => ((laws_eqStringS.f k bt141.1 x4).bind fun t148 => (if t148 = true then ((laws_eqInt64S.f k bt141.2.1 x5).bind fun t149 => (if t149 = true then (laws_FnExactCountLines.j2 k bt132.2 bt134.2 bt134.1 (bt141.2.2 != x6)) else (laws_FnExactCountLines.j2 k bt132.2 bt134.2 bt134.1 true))) else (laws_FnExactCountLines.j2 k bt132.2 bt134.2 bt134.1 true))))) else (some false))))))))
def laws_FnExactCountLines.j2 : Nat → List ByteArray → List Int → Int → Bool → Option (Bool)
  | 0, _, _, _, _ => none
  | k + 1, x8, x9, x12, x119 => if x119 = true then (some false) else ((laws_heldStringS.f k x8 1).bind fun t150 => (if t150 < 0 then (some false) else ((laws_heldInt64S.f k x9 t150).bind fun t151 => (if t151 < 0 then (some false) else (if t151 = x12 then (some true) else (some false))))))
end
def laws_FnExactCountLines.f (k : Nat) (l0 : List ByteArray) : Option (Bool) := (laws_szStringS.f k l0 1048576).bind fun t101 => (if t101 < 0 then (some true) else ((laws_toStringS.f k l0).bind fun t102 => ((spec_CountLines.f k t102).bind fun bt105 => ((laws_toStringS.f k l0).bind fun t112 => ((impl_CountLines.f k t112).bind fun bt115 => ((laws_eqStringS.f k bt115.1 bt105.1).bind fun t122 => (if t122 = true then ((laws_eqInt64S.f k bt115.2.1 bt105.2.1).bind fun t123 => (if t123 = true then (laws_FnExactCountLines.j0 k l0 bt105.1 bt105.2.1 bt105.2.2 t112 bt115.1 bt115.2.1 bt115.2.2 (bt115.2.2 != bt105.2.2)) else (laws_FnExactCountLines.j0 k l0 bt105.1 bt105.2.1 bt105.2.2 t112 bt115.1 bt115.2.1 bt115.2.2 true))) else (laws_FnExactCountLines.j0 k l0 bt105.1 bt105.2.1 bt105.2.2 t112 bt115.1 bt115.2.1 bt115.2.2 true))))))))
theorem laws_FnExactCountLines.mono_l : ∀ k, (∀ y0 y1 y2 y3 y4 y5 y6 y7 y8, LeO (laws_FnExactCountLines.j0 k y0 y1 y2 y3 y4 y5 y6 y7 y8) (laws_FnExactCountLines.j0 (k + 1) y0 y1 y2 y3 y4 y5 y6 y7 y8)) ∧ (∀ y0 y1 y2 y3 y4 y5 y6, LeO (laws_FnExactCountLines.j1 k y0 y1 y2 y3 y4 y5 y6) (laws_FnExactCountLines.j1 (k + 1) y0 y1 y2 y3 y4 y5 y6)) ∧ (∀ y0 y1 y2 y3, LeO (laws_FnExactCountLines.j2 k y0 y1 y2 y3) (laws_FnExactCountLines.j2 (k + 1) y0 y1 y2 y3))
  | 0 => ⟨fun _ _ _ _ _ _ _ _ _ r h => by simp [laws_FnExactCountLines.j0] at h, fun _ _ _ _ _ _ _ r h => by simp [laws_FnExactCountLines.j1] at h, fun _ _ _ _ r h => by simp [laws_FnExactCountLines.j2] at h⟩
  | k + 1 => by
    obtain ⟨ih0, ih1, ih2⟩ := laws_FnExactCountLines.mono_l k
    refine ⟨?_, ?_, ?_⟩
    · intro y0 y1 y2 y3 y4 y5 y6 y7 y8
      unfold laws_FnExactCountLines.j0
      repeat' first
      | (with_reducible exact ih0 _ _ _ _ _ _ _ _ _)
      | (with_reducible exact ih1 _ _ _ _ _ _ _)
      | (with_reducible exact ih2 _ _ _ _)
      | (with_reducible exact impl_CountLines.mono _ _)
      | (with_reducible exact laws_eqInt64S.mono _ _ _)
      | (with_reducible exact laws_eqStringS.mono _ _ _)
      | (with_reducible exact laws_heldInt64S.mono _ _ _)
      | (with_reducible exact laws_heldStringS.mono _ _ _)
      | (with_reducible exact laws_markInt64S.mono _ _ _)
      | (with_reducible exact laws_markStringS.mono _ _ _)
      | (with_reducible exact laws_szStringS.mono _ _ _)
      | (with_reducible exact laws_toStringS.mono _ _)
      | (with_reducible exact spec_CountLines.mono _ _)
      | (with_reducible exact LeO.refl _)
      | (with_reducible exact LeO.none _)
      | (with_reducible refine LeO.ite ?_ ?_)
      | (with_reducible refine LeO.bind ?_ (fun _ => ?_))
      | exact ih0 _ _ _ _ _ _ _ _ _
      | exact ih1 _ _ _ _ _ _ _
      | exact ih2 _ _ _ _
      | exact impl_CountLines.mono _ _
      | exact laws_eqInt64S.mono _ _ _
      | exact laws_eqStringS.mono _ _ _
      | exact laws_heldInt64S.mono _ _ _
      | exact laws_heldStringS.mono _ _ _
      | exact laws_markInt64S.mono _ _ _
      | exact laws_markStringS.mono _ _ _
      | exact laws_szStringS.mono _ _ _
      | exact laws_toStringS.mono _ _
      | exact spec_CountLines.mono _ _
      | exact LeO.none _
      | refine LeO.ite ?_ ?_
      | refine LeO.bind ?_ (fun _ => ?_)
    · intro y0 y1 y2 y3 y4 y5 y6
      unfold laws_FnExactCountLines.j1
      repeat' first
      | (with_reducible exact ih0 _ _ _ _ _ _ _ _ _)
      | (with_reducible exact ih1 _ _ _ _ _ _ _)
      | (with_reducible exact ih2 _ _ _ _)
      | (with_reducible exact impl_CountLines.mono _ _)
      | (with_reducible exact laws_eqInt64S.mono _ _ _)
      | (with_reducible exact laws_eqStringS.mono _ _ _)
      | (with_reducible exact laws_heldInt64S.mono _ _ _)
      | (with_reducible exact laws_heldStringS.mono _ _ _)
      | (with_reducible exact laws_markInt64S.mono _ _ _)
      | (with_reducible exact laws_markStringS.mono _ _ _)
      | (with_reducible exact laws_szStringS.mono _ _ _)
      | (with_reducible exact laws_toStringS.mono _ _)
      | (with_reducible exact spec_CountLines.mono _ _)
      | (with_reducible exact LeO.refl _)
      | (with_reducible exact LeO.none _)
      | (with_reducible refine LeO.ite ?_ ?_)
      | (with_reducible refine LeO.bind ?_ (fun _ => ?_))
      | exact ih0 _ _ _ _ _ _ _ _ _
      | exact ih1 _ _ _ _ _ _ _
      | exact ih2 _ _ _ _
      | exact impl_CountLines.mono _ _
      | exact laws_eqInt64S.mono _ _ _
      | exact laws_eqStringS.mono _ _ _
      | exact laws_heldInt64S.mono _ _ _
      | exact laws_heldStringS.mono _ _ _
      | exact laws_markInt64S.mono _ _ _
      | exact laws_markStringS.mono _ _ _
      | exact laws_szStringS.mono _ _ _
      | exact laws_toStringS.mono _ _
      | exact spec_CountLines.mono _ _
      | exact LeO.none _
      | refine LeO.ite ?_ ?_
      | refine LeO.bind ?_ (fun _ => ?_)
    · intro y0 y1 y2 y3
      unfold laws_FnExactCountLines.j2
      repeat' first
      | (with_reducible exact ih0 _ _ _ _ _ _ _ _ _)
      | (with_reducible exact ih1 _ _ _ _ _ _ _)
      | (with_reducible exact ih2 _ _ _ _)
      | (with_reducible exact impl_CountLines.mono _ _)
      | (with_reducible exact laws_eqInt64S.mono _ _ _)
      | (with_reducible exact laws_eqStringS.mono _ _ _)
      | (with_reducible exact laws_heldInt64S.mono _ _ _)
      | (with_reducible exact laws_heldStringS.mono _ _ _)
      | (with_reducible exact laws_markInt64S.mono _ _ _)
      | (with_reducible exact laws_markStringS.mono _ _ _)
      | (with_reducible exact laws_szStringS.mono _ _ _)
      | (with_reducible exact laws_toStringS.mono _ _)
      | (with_reducible exact spec_CountLines.mono _ _)
      | (with_reducible exact LeO.refl _)
      | (with_reducible exact LeO.none _)
      | (with_reducible refine LeO.ite ?_ ?_)
      | (with_reducible refine LeO.bind ?_ (fun _ => ?_))
      | exact ih0 _ _ _ _ _ _ _ _ _
      | exact ih1 _ _ _ _ _ _ _
      | exact ih2 _ _ _ _
      | exact impl_CountLines.mono _ _
      | exact laws_eqInt64S.mono _ _ _
      | exact laws_eqStringS.mono _ _ _
      | exact laws_heldInt64S.mono _ _ _
      | exact laws_heldStringS.mono _ _ _
      | exact laws_markInt64S.mono _ _ _
      | exact laws_markStringS.mono _ _ _
      | exact laws_szStringS.mono _ _ _
      | exact laws_toStringS.mono _ _
      | exact spec_CountLines.mono _ _
      | exact LeO.none _
      | refine LeO.ite ?_ ?_
      | refine LeO.bind ?_ (fun _ => ?_)
theorem laws_FnExactCountLines.mono : ∀ a0 k, LeO (laws_FnExactCountLines.f k a0) (laws_FnExactCountLines.f (k + 1) a0) := by
  intro a0 k
  obtain ⟨ih0, ih1, ih2⟩ := laws_FnExactCountLines.mono_l k
  unfold laws_FnExactCountLines.f
  repeat' first
      | (with_reducible exact ih0 _ _ _ _ _ _ _ _ _)
      | (with_reducible exact ih1 _ _ _ _ _ _ _)
      | (with_reducible exact ih2 _ _ _ _)
      | (with_reducible exact impl_CountLines.mono _ _)
      | (with_reducible exact laws_eqInt64S.mono _ _ _)
      | (with_reducible exact laws_eqStringS.mono _ _ _)
      | (with_reducible exact laws_heldInt64S.mono _ _ _)
      | (with_reducible exact laws_heldStringS.mono _ _ _)
      | (with_reducible exact laws_markInt64S.mono _ _ _)
      | (with_reducible exact laws_markStringS.mono _ _ _)
      | (with_reducible exact laws_szStringS.mono _ _ _)
      | (with_reducible exact laws_toStringS.mono _ _)
      | (with_reducible exact spec_CountLines.mono _ _)
      | (with_reducible exact LeO.refl _)
      | (with_reducible exact LeO.none _)
      | (with_reducible refine LeO.ite ?_ ?_)
      | (with_reducible refine LeO.bind ?_ (fun _ => ?_))
      | exact ih0 _ _ _ _ _ _ _ _ _
      | exact ih1 _ _ _ _ _ _ _
      | exact ih2 _ _ _ _
      | exact impl_CountLines.mono _ _
      | exact laws_eqInt64S.mono _ _ _
      | exact laws_eqStringS.mono _ _ _
      | exact laws_heldInt64S.mono _ _ _
      | exact laws_heldStringS.mono _ _ _
      | exact laws_markInt64S.mono _ _ _
      | exact laws_markStringS.mono _ _ _
      | exact laws_szStringS.mono _ _ _
      | exact laws_toStringS.mono _ _
      | exact spec_CountLines.mono _ _
      | exact LeO.none _
      | refine LeO.ite ?_ ?_
      | refine LeO.bind ?_ (fun _ => ?_)
set_option maxHeartbeats 8000000 in
set_option maxRecDepth 100000 in
theorem laws_FnExactCountLines.calls (k : Nat) (A0 : Option Addr) (c0 : Nat) (l0 : List ByteArray) (r : Bool) (w : World) (hr0 : Kd.C Kd.string w A0 l0.length l0) (hc0 : l0.length ≤ c0) (h : laws_FnExactCountLines.f k l0 = some r) :
    Calls Try.prog 13 #[.slice A0 l0.length c0] w fun e w' => e = .returned (.bool r) ∧ Below w.heap.size w w' := by
  have HR0 := Aside0.mk hr0
  have HC0 := Aside0.mk hc0
  clear hr0 hc0
  have HB := Aside0.mk (Below.refl w.heap.size w)
  have H : ((laws_szStringS.f k l0 1048576).bind fun t101 => (if t101 < 0 then (some true) else ((laws_toStringS.f k l0).bind fun t102 => ((spec_CountLines.f k t102).bind fun bt105 => ((laws_toStringS.f k l0).bind fun t112 => ((impl_CountLines.f k t112).bind fun bt115 => ((laws_eqStringS.f k bt115.1 bt105.1).bind fun t122 => (if t122 = true then ((laws_eqInt64S.f k bt115.2.1 bt105.2.1).bind fun t123 => (if t123 = true then (laws_FnExactCountLines.j0 k l0 bt105.1 bt105.2.1 bt105.2.2 t112 bt115.1 bt115.2.1 bt115.2.2 (bt115.2.2 != bt105.2.2)) else (laws_FnExactCountLines.j0 k l0 bt105.1 bt105.2.1 bt105.2.2 t112 bt115.1 bt115.2.1 bt115.2.2 true))) else (laws_FnExactCountLines.j0 k l0 bt105.1 bt105.2.1 bt105.2.2 t112 bt115.1 bt115.2.1 bt115.2.2 true))))))))) = some r := h
  clear h
  replace H := Option.bind_eq_some_iff.mp H
  obtain ⟨t101, A20, H⟩ := H
  replace H : (if t101 < 0 then (some true) else ((laws_toStringS.f k l0).bind fun t102 => ((spec_CountLines.f k t102).bind fun bt105 => ((laws_toStringS.f k l0).bind fun t112 => ((impl_CountLines.f k t112).bind fun bt115 => ((laws_eqStringS.f k bt115.1 bt105.1).bind fun t122 => (if t122 = true then ((laws_eqInt64S.f k bt115.2.1 bt105.2.1).bind fun t123 => (if t123 = true then (laws_FnExactCountLines.j0 k l0 bt105.1 bt105.2.1 bt105.2.2 t112 bt115.1 bt115.2.1 bt115.2.2 (bt115.2.2 != bt105.2.2)) else (laws_FnExactCountLines.j0 k l0 bt105.1 bt105.2.1 bt105.2.2 t112 bt115.1 bt115.2.1 bt115.2.2 true))) else (laws_FnExactCountLines.j0 k l0 bt105.1 bt105.2.1 bt105.2.2 t112 bt115.1 bt115.2.1 bt115.2.2 true)))))))) = some r := H
  have A2 := Aside0.mk A20
  clear A20
  by_cases c3 : t101 < 0
  · rw [if_pos c3] at H
    have c3b0 : decide (t101 < 0) = true := decide_eq_true c3
    clear c3
    obtain rfl := Option.some.inj H
    go_enter Try.func13, Try.ntmps13
    go_wp2_with (first | ((with_reducible refine gate_callee (f := 14) rfl ?_); refine goesL_ (some 19) rfl rfl Try.func14 (by kernel_rfl) rfl #[.slice A0 l0.length c0, .int .i64 1048576] rfl (by (try simp only [List.map_toArray, List.map_cons, List.map_nil]); first | done | rfl | (simp only [List.length_drop, List.length_take]; rfl)) ?_; (with_reducible refine (laws_szStringS.calls k _ _ l0 1048576 t101 _ ?side1 ?side2 A2.out).mono ?_); (case side1 => repeat (first | exact HR0.out | (with_reducible refine Kd.C_alloc ?_ _) | (with_reducible refine Kd.C_drewN ?_ _) | (with_reducible refine Kd.C_drew ?_))); (case side2 => exact HC0.out); rintro e w' ⟨rfl, ⟨nd, rfl⟩⟩; refine ⟨_, rfl, ?_⟩))
    go_ret
    exact ⟨by first | rfl | (simp [errW_none, errW_some] <;> rfl) | (simp [*, errW_none, errW_some] <;> rfl), by repeat (first | (with_reducible first | exact HB.out | apply below_alloc | apply pw_below_drewN | apply below_drew1) | exact HB.out)⟩
  · rw [if_neg c3] at H
    have c3b0 : decide (t101 < 0) = false := decide_eq_false c3
    clear c3
    replace H := Option.bind_eq_some_iff.mp H
    obtain ⟨t102, A40, H⟩ := H
    replace H : ((spec_CountLines.f k t102).bind fun bt105 => ((laws_toStringS.f k l0).bind fun t112 => ((impl_CountLines.f k t112).bind fun bt115 => ((laws_eqStringS.f k bt115.1 bt105.1).bind fun t122 => (if t122 = true then ((laws_eqInt64S.f k bt115.2.1 bt105.2.1).bind fun t123 => (if t123 = true then (laws_FnExactCountLines.j0 k l0 bt105.1 bt105.2.1 bt105.2.2 t112 bt115.1 bt115.2.1 bt115.2.2 (bt115.2.2 != bt105.2.2)) else (laws_FnExactCountLines.j0 k l0 bt105.1 bt105.2.1 bt105.2.2 t112 bt115.1 bt115.2.1 bt115.2.2 true))) else (laws_FnExactCountLines.j0 k l0 bt105.1 bt105.2.1 bt105.2.2 t112 bt115.1 bt115.2.1 bt115.2.2 true)))))) = some r := H
    have A4 := Aside0.mk A40
    clear A40
    replace H := Option.bind_eq_some_iff.mp H
    obtain ⟨⟨t105, t106, t107⟩, A50, H⟩ := H
    replace H : ((laws_toStringS.f k l0).bind fun t112 => ((impl_CountLines.f k t112).bind fun bt115 => ((laws_eqStringS.f k bt115.1 t105).bind fun t122 => (if t122 = true then ((laws_eqInt64S.f k bt115.2.1 t106).bind fun t123 => (if t123 = true then (laws_FnExactCountLines.j0 k l0 t105 t106 t107 t112 bt115.1 bt115.2.1 bt115.2.2 (bt115.2.2 != t107)) else (laws_FnExactCountLines.j0 k l0 t105 t106 t107 t112 bt115.1 bt115.2.1 bt115.2.2 true))) else (laws_FnExactCountLines.j0 k l0 t105 t106 t107 t112 bt115.1 bt115.2.1 bt115.2.2 true))))) = some r := H
    have A5 := Aside0.mk A50
    clear A50
    replace H := Option.bind_eq_some_iff.mp H
    obtain ⟨t112, A60, H⟩ := H
    replace H : ((impl_CountLines.f k t112).bind fun bt115 => ((laws_eqStringS.f k bt115.1 t105).bind fun t122 => (if t122 = true then ((laws_eqInt64S.f k bt115.2.1 t106).bind fun t123 => (if t123 = true then (laws_FnExactCountLines.j0 k l0 t105 t106 t107 t112 bt115.1 bt115.2.1 bt115.2.2 (bt115.2.2 != t107)) else (laws_FnExactCountLines.j0 k l0 t105 t106 t107 t112 bt115.1 bt115.2.1 bt115.2.2 true))) else (laws_FnExactCountLines.j0 k l0 t105 t106 t107 t112 bt115.1 bt115.2.1 bt115.2.2 true)))) = some r := H
    have A6 := Aside0.mk A60
    clear A60
    replace H := Option.bind_eq_some_iff.mp H
    obtain ⟨⟨t115, t116, t117⟩, A70, H⟩ := H
    replace H : ((laws_eqStringS.f k t115 t105).bind fun t122 => (if t122 = true then ((laws_eqInt64S.f k t116 t106).bind fun t123 => (if t123 = true then (laws_FnExactCountLines.j0 k l0 t105 t106 t107 t112 t115 t116 t117 (t117 != t107)) else (laws_FnExactCountLines.j0 k l0 t105 t106 t107 t112 t115 t116 t117 true))) else (laws_FnExactCountLines.j0 k l0 t105 t106 t107 t112 t115 t116 t117 true))) = some r := H
    have A7 := Aside0.mk A70
    clear A70
    have HC8 := Aside0.mk H
    clear H
    go_enter Try.func13, Try.ntmps13
    go_upto_region 8 with (first | ((with_reducible refine gate_callee (f := 14) rfl ?_); refine goesL_ (some 19) rfl rfl Try.func14 (by kernel_rfl) rfl #[.slice A0 l0.length c0, .int .i64 1048576] rfl (by (try simp only [List.map_toArray, List.map_cons, List.map_nil]); first | done | rfl | (simp only [List.length_drop, List.length_take]; rfl)) ?_; (with_reducible refine (laws_szStringS.calls k _ _ l0 1048576 t101 _ ?side1 ?side2 A2.out).mono ?_); (case side1 => repeat (first | exact HR0.out | (with_reducible refine Kd.C_alloc ?_ _) | (with_reducible refine Kd.C_drewN ?_ _) | (with_reducible refine Kd.C_drew ?_))); (case side2 => exact HC0.out); rintro e w' ⟨rfl, ⟨nd, rfl⟩⟩; refine ⟨_, rfl, ?_⟩) | ((with_reducible refine gate_callee (f := 16) rfl ?_); refine goesL_ (some 24) rfl rfl Try.func16 (by kernel_rfl) rfl #[.slice A0 l0.length c0] rfl (by (try simp only [List.map_toArray, List.map_cons, List.map_nil]); first | done | rfl | (simp only [List.length_drop, List.length_take]; rfl)) ?_; (with_reducible refine (laws_toStringS.calls k _ _ l0 t102 _ ?side1 ?side2 A4.out).mono ?_); (case side1 => repeat (first | exact HR0.out | (with_reducible refine Kd.C_alloc ?_ _) | (with_reducible refine Kd.C_drewN ?_ _) | (with_reducible refine Kd.C_drew ?_))); (case side2 => exact HC0.out); rintro e w9 ⟨v103, rfl, ho0, hb⟩; refine ⟨_, rfl, ?_⟩; have n0_ := Aside0.mk (Kd.R_lower ho0 (below_size (by repeat (first | (with_reducible first | exact HB.out | apply below_alloc | apply pw_below_drewN | apply below_drew1) | exact HB.out)))); have n1_ := Aside0.mk (below_step (by repeat (first | (with_reducible first | exact HB.out | apply below_alloc | apply pw_below_drewN | apply below_drew1) | exact HB.out)) hb); clear HB; have HO104 := n0_; have HB := n1_; clear n0_ n1_; (try clear hb); (try clear hb2); (try clear hk); (try clear hi); (try clear ho0); obtain ⟨Ao10, co10, eo10⟩ := Kd.R_slice HO104.out; subst eo10) | ((with_reducible refine gate_callee (f := 55) rfl ?_); refine goesL_ (some 25) rfl rfl Try.func55 (by kernel_rfl) rfl #[.slice Ao10 t102.length co10] rfl (by (try simp only [List.map_toArray, List.map_cons, List.map_nil]); first | done | rfl | (simp only [List.length_drop, List.length_take]; rfl)) ?_; (with_reducible refine (spec_CountLines.calls k _ _ t102 t105 t106 t107 _ ?side1 ?side2 A5.out).mono ?_); (case side1 => repeat (first | exact (Kd.R_reads' HO104.out).2.2 | (with_reducible refine Kd.C_alloc ?_ _) | (with_reducible refine Kd.C_drewN ?_ _) | (with_reducible refine Kd.C_drew ?_))); (case side2 => exact (Kd.R_reads' HO104.out).2.1); rintro e w11 ⟨v108, v110, rfl, ho0, ho1, hb⟩; refine ⟨_, rfl, ?_⟩; have n0_ := Aside0.mk (Kd.R_elder' (by (with_reducible repeat (first | apply Kd.R_alloc | apply Kd.R_drewN | apply Kd.R_drew)); exact HO104.out) (Kd.R_base ho0) hb); have n1_ := Aside0.mk (Kd.R_lower (Kd.R_new' ho0 (Kd.R_lt (by (with_reducible repeat (first | apply Kd.R_alloc | apply Kd.R_drewN | apply Kd.R_drew)); exact HO104.out))) (below_size (by repeat (first | (with_reducible first | exact HB.out | apply below_alloc | apply pw_below_drewN | apply below_drew1) | exact HB.out)))); have n2_ := Aside0.mk (Kd.R_lower ho1 (below_size (by repeat (first | (with_reducible first | exact HB.out | apply below_alloc | apply pw_below_drewN | apply below_drew1) | exact HB.out)))); have n3_ := Aside0.mk (below_step (by repeat (first | (with_reducible first | exact HB.out | apply below_alloc | apply pw_below_drewN | apply below_drew1) | exact HB.out)) hb); clear HO104; clear HB; have HO104 := n0_; have HO109 := n1_; have HO111 := n2_; have HB := n3_; clear n0_ n1_ n2_ n3_; (try clear hb); (try clear hb2); (try clear hk); (try clear hi); (try clear ho0); (try clear ho1)) | ((with_reducible refine gate_callee (f := 16) rfl ?_); refine goesL_ (some 30) rfl rfl Try.func16 (by kernel_rfl) rfl #[.slice A0 l0.length c0] rfl (by (try simp only [List.map_toArray, List.map_cons, List.map_nil]); first | done | rfl | (simp only [List.length_drop, List.length_take]; rfl)) ?_; (with_reducible refine (laws_toStringS.calls k _ _ l0 t112 _ ?side1 ?side2 A6.out).mono ?_); (case side1 => repeat (first | exact (Kd.C_below HR0.out HB.out) | (with_reducible refine Kd.C_alloc ?_ _) | (with_reducible refine Kd.C_drewN ?_ _) | (with_reducible refine Kd.C_drew ?_))); (case side2 => exact HC0.out); rintro e w12 ⟨v113, rfl, ho0, hb⟩; refine ⟨_, rfl, ?_⟩; have n0_ := Aside0.mk (Kd.R_elder' (by (with_reducible repeat (first | apply Kd.R_alloc | apply Kd.R_drewN | apply Kd.R_drew)); exact HO104.out) (Kd.R_base ho0) hb); have n1_ := Aside0.mk (Kd.R_elder' (by (with_reducible repeat (first | apply Kd.R_alloc | apply Kd.R_drewN | apply Kd.R_drew)); exact HO109.out) (Kd.R_base ho0) hb); have n2_ := Aside0.mk (Kd.R_below (by (with_reducible repeat (first | apply Kd.R_alloc | apply Kd.R_drewN | apply Kd.R_drew)); exact HO111.out) hb); have n3_ := Aside0.mk (Kd.R_lower (Kd.R_new' (Kd.R_new' ho0 (Kd.R_lt (by (with_reducible repeat (first | apply Kd.R_alloc | apply Kd.R_drewN | apply Kd.R_drew)); exact HO104.out))) (Kd.R_lt (by (with_reducible repeat (first | apply Kd.R_alloc | apply Kd.R_drewN | apply Kd.R_drew)); exact HO109.out))) (below_size (by repeat (first | (with_reducible first | exact HB.out | apply below_alloc | apply pw_below_drewN | apply below_drew1) | exact HB.out)))); have n4_ := Aside0.mk (below_step (by repeat (first | (with_reducible first | exact HB.out | apply below_alloc | apply pw_below_drewN | apply below_drew1) | exact HB.out)) hb); clear HO104; clear HO109; clear HO111; clear HB; have HO104 := n0_; have HO109 := n1_; have HO111 := n2_; have HO114 := n3_; have HB := n4_; clear n0_ n1_ n2_ n3_ n4_; (try clear hb); (try clear hb2); (try clear hk); (try clear hi); (try clear ho0); obtain ⟨Ao13, co13, eo13⟩ := Kd.R_slice HO114.out; subst eo13) | ((with_reducible refine gate_callee (f := 56) rfl ?_); refine goesL_ (some 33) rfl rfl Try.func56 (by kernel_rfl) rfl #[.slice Ao13 t112.length co13] rfl (by (try simp only [List.map_toArray, List.map_cons, List.map_nil]); first | done | rfl | (simp only [List.length_drop, List.length_take]; rfl)) ?_; (with_reducible refine (impl_CountLines.calls k _ _ t112 t115 t116 t117 _ ?side1 ?side2 A7.out).mono ?_); (case side1 => repeat (first | exact (Kd.R_reads' HO114.out).2.2 | (with_reducible refine Kd.C_alloc ?_ _) | (with_reducible refine Kd.C_drewN ?_ _) | (with_reducible refine Kd.C_drew ?_))); (case side2 => exact (Kd.R_reads' HO114.out).2.1); rintro e w14 ⟨v118, v120, rfl, ho0, ho1, hb⟩; refine ⟨_, rfl, ?_⟩; have n0_ := Aside0.mk (Kd.R_elder' (by (with_reducible repeat (first | apply Kd.R_alloc | apply Kd.R_drewN | apply Kd.R_drew)); exact HO104.out) (Kd.R_base ho0) hb); have n1_ := Aside0.mk (Kd.R_elder' (by (with_reducible repeat (first | apply Kd.R_alloc | apply Kd.R_drewN | apply Kd.R_drew)); exact HO109.out) (Kd.R_base ho0) hb); have n2_ := Aside0.mk (Kd.R_elder' (by (with_reducible repeat (first | apply Kd.R_alloc | apply Kd.R_drewN | apply Kd.R_drew)); exact HO111.out) (Kd.R_base ho1) hb); have n3_ := Aside0.mk (Kd.R_elder' (by (with_reducible repeat (first | apply Kd.R_alloc | apply Kd.R_drewN | apply Kd.R_drew)); exact HO114.out) (Kd.R_base ho0) hb); have n4_ := Aside0.mk (Kd.R_lower (Kd.R_new' (Kd.R_new' (Kd.R_new' ho0 (Kd.R_lt (by (with_reducible repeat (first | apply Kd.R_alloc | apply Kd.R_drewN | apply Kd.R_drew)); exact HO104.out))) (Kd.R_lt (by (with_reducible repeat (first | apply Kd.R_alloc | apply Kd.R_drewN | apply Kd.R_drew)); exact HO109.out))) (Kd.R_lt (by (with_reducible repeat (first | apply Kd.R_alloc | apply Kd.R_drewN | apply Kd.R_drew)); exact HO114.out))) (below_size (by repeat (first | (with_reducible first | exact HB.out | apply below_alloc | apply pw_below_drewN | apply below_drew1) | exact HB.out)))); have n5_ := Aside0.mk (Kd.R_lower (Kd.R_new' ho1 (Kd.R_lt (by (with_reducible repeat (first | apply Kd.R_alloc | apply Kd.R_drewN | apply Kd.R_drew)); exact HO111.out))) (below_size (by repeat (first | (with_reducible first | exact HB.out | apply below_alloc | apply pw_below_drewN | apply below_drew1) | exact HB.out)))); have n6_ := Aside0.mk (below_step (by repeat (first | (with_reducible first | exact HB.out | apply below_alloc | apply pw_below_drewN | apply below_drew1) | exact HB.out)) hb); clear HO104; clear HO109; clear HO111; clear HO114; clear HB; have HO104 := n0_; have HO109 := n1_; have HO111 := n2_; have HO114 := n3_; have HO119 := n4_; have HO121 := n5_; have HB := n6_; clear n0_ n1_ n2_ n3_ n4_ n5_ n6_; (try clear hb); (try clear hb2); (try clear hk); (try clear hi); (try clear ho0); (try clear ho1)))
    (try simp only [Act.put, List.setIfInBounds_toArray, List.set_cons_zero, List.set_cons_succ])
    go_cut [51] (fun v51 wc => ∃ (kq : Nat) (x51_7 : Bool), v51 = .bool x51_7 ∧ Aside0 (laws_FnExactCountLines.j0 kq l0 t105 t106 t107 t112 t115 t116 t117 x51_7 = some r) ∧ Aside0 (kq ≤ k) ∧ Aside0 (Kd.R Kd.string 9 wc w.heap.size (fun k_ => some k_ ≠ ((.slice Ao13 t112.length co13) : Value).ownBlock ∧ some k_ ≠ (v118 : Value).ownBlock) v108 t105) ∧ Aside0 (Kd.R (Kd.int .i64) 2 wc w.heap.size (fun k_ => some k_ ≠ (v120 : Value).ownBlock) v110 t106) ∧ Aside0 (Kd.R Kd.string 9 wc w.heap.size (fun k_ => some k_ ≠ (v108 : Value).ownBlock ∧ some k_ ≠ (v118 : Value).ownBlock) (.slice Ao13 t112.length co13) t112) ∧ Aside0 (Kd.R Kd.string 9 wc w.heap.size (fun k_ => some k_ ≠ (v108 : Value).ownBlock ∧ some k_ ≠ ((.slice Ao13 t112.length co13) : Value).ownBlock) v118 t115) ∧ Aside0 (Kd.R (Kd.int .i64) 2 wc w.heap.size (fun k_ => some k_ ≠ (v110 : Value).ownBlock) v120 t116) ∧ Aside0 (Below w.heap.size w wc))
    case first =>
      have H := HC8.out
      clear HC8
      replace H := Option.bind_eq_some_iff.mp H
      obtain ⟨t122, A150, H⟩ := H
      replace H : (if t122 = true then ((laws_eqInt64S.f k t116 t106).bind fun t123 => (if t123 = true then (laws_FnExactCountLines.j0 k l0 t105 t106 t107 t112 t115 t116 t117 (t117 != t107)) else (laws_FnExactCountLines.j0 k l0 t105 t106 t107 t112 t115 t116 t117 true))) else (laws_FnExactCountLines.j0 k l0 t105 t106 t107 t112 t115 t116 t117 true)) = some r := H
      have A15 := Aside0.mk A150
      clear A150
      by_cases c16 : t122 = true
      · subst c16
        have H1 : ((laws_eqInt64S.f k t116 t106).bind fun t123 => (if t123 = true then (laws_FnExactCountLines.j0 k l0 t105 t106 t107 t112 t115 t116 t117 (t117 != t107)) else (laws_FnExactCountLines.j0 k l0 t105 t106 t107 t112 t115 t116 t117 true))) = some r := by rw [if_pos rfl] at H; exact H
        clear H
        have H := H1
        clear H1
        replace H := Option.bind_eq_some_iff.mp H
        obtain ⟨t123, A170, H⟩ := H
        replace H : (if t123 = true then (laws_FnExactCountLines.j0 k l0 t105 t106 t107 t112 t115 t116 t117 (t117 != t107)) else (laws_FnExactCountLines.j0 k l0 t105 t106 t107 t112 t115 t116 t117 true)) = some r := H
        have A17 := Aside0.mk A170
        clear A170
        by_cases c18 : t123 = true
        · subst c18
          have H1 : (laws_FnExactCountLines.j0 k l0 t105 t106 t107 t112 t115 t116 t117 (t117 != t107)) = some r := by rw [if_pos rfl] at H; exact H
          clear H
          have H := H1
          clear H1
          have H' := Aside0.mk H
          clear H
          obtain ⟨Ao19, co19, eo19⟩ := Kd.R_slice HO119.out
          subst eo19
          obtain ⟨Ao20, co20, eo20⟩ := Kd.R_slice HO109.out
          subst eo20
          go_wp2_with (first | ((with_reducible refine gate_callee (f := 19) rfl ?_); refine goesL_ (some 39) rfl rfl Try.func19 (by kernel_rfl) rfl #[.slice Ao19 t115.length co19, .slice Ao20 t105.length co20] rfl (by (try simp only [List.map_toArray, List.map_cons, List.map_nil]); first | done | rfl | (simp only [List.length_drop, List.length_take]; rfl)) ?_; (with_reducible refine (laws_eqStringS.calls k _ _ t115 _ _ t105 true _ ?side1 ?side2 ?side3 ?side4 A15.out).mono ?_); (case side1 => repeat (first | exact (Kd.R_reads' HO119.out).2.2 | (with_reducible refine Kd.C_alloc ?_ _) | (with_reducible refine Kd.C_drewN ?_ _) | (with_reducible refine Kd.C_drew ?_))); (case side2 => exact (Kd.R_reads' HO119.out).2.1); (case side3 => repeat (first | exact (Kd.R_reads' HO109.out).2.2 | (with_reducible refine Kd.C_alloc ?_ _) | (with_reducible refine Kd.C_drewN ?_ _) | (with_reducible refine Kd.C_drew ?_))); (case side4 => exact (Kd.R_reads' HO109.out).2.1); rintro e w' ⟨rfl, ⟨nd, rfl⟩⟩; refine ⟨_, rfl, ?_⟩; obtain ⟨Ao21, co21, eo21⟩ := Kd.R_slice HO121.out; subst eo21; obtain ⟨Ao22, co22, eo22⟩ := Kd.R_slice HO111.out; subst eo22) | (go_at_call 18; (with_reducible refine (laws_eqInt64S.calls k _ _ t116 _ _ t106 true _ ?side1 ?side2 ?side3 ?side4 A17.out).mono ?_); (case side1 => repeat (first | exact (Kd.R_reads' HO121.out).2.2 | (with_reducible refine Kd.C_alloc ?_ _) | (with_reducible refine Kd.C_drewN ?_ _) | (with_reducible refine Kd.C_drew ?_))); (case side2 => exact (Kd.R_reads' HO121.out).2.1); (case side3 => repeat (first | exact (Kd.R_reads' HO111.out).2.2 | (with_reducible refine Kd.C_alloc ?_ _) | (with_reducible refine Kd.C_drewN ?_ _) | (with_reducible refine Kd.C_drew ?_))); (case side4 => exact (Kd.R_reads' HO111.out).2.1); rintro e w' ⟨rfl, ⟨nd, rfl⟩⟩))
          go_meet
          case rel => exact ⟨_, ((t117 != t107)), (by first | rfl | (simp; done) | (simp [*]; done)), H', ⟨by first | omega | exact Nat.le_refl _⟩, ⟨by (with_reducible repeat (first | apply Kd.R_alloc | apply Kd.R_drewN | apply Kd.R_drew)); exact Kd.R_mono HO109.out (fun _ hk => ⟨hk.1.2, hk.2⟩)⟩, ⟨by (with_reducible repeat (first | apply Kd.R_alloc | apply Kd.R_drewN | apply Kd.R_drew)); exact Kd.R_mono HO111.out (fun _ hk => hk.2)⟩, ⟨by (with_reducible repeat (first | apply Kd.R_alloc | apply Kd.R_drewN | apply Kd.R_drew)); exact Kd.R_mono HO114.out (fun _ hk => ⟨hk.1.2, hk.2⟩)⟩, ⟨by (with_reducible repeat (first | apply Kd.R_alloc | apply Kd.R_drewN | apply Kd.R_drew)); exact Kd.R_mono HO119.out (fun _ hk => ⟨hk.1.2, hk.2⟩)⟩, ⟨by (with_reducible repeat (first | apply Kd.R_alloc | apply Kd.R_drewN | apply Kd.R_drew)); exact Kd.R_mono HO121.out (fun _ hk => hk.2)⟩, ⟨by repeat (first | (with_reducible first | exact HB.out | apply below_alloc | apply pw_below_drewN | apply below_drew1) | exact HB.out)⟩⟩
        · replace c18 := Bool.eq_false_iff.mpr c18
          subst c18
          have H1 : (laws_FnExactCountLines.j0 k l0 t105 t106 t107 t112 t115 t116 t117 true) = some r := by rw [if_neg (show ¬ (false = true) by decide)] at H; exact H
          clear H
          have H := H1
          clear H1
          have H' := Aside0.mk H
          clear H
          obtain ⟨Ao23, co23, eo23⟩ := Kd.R_slice HO119.out
          subst eo23
          obtain ⟨Ao24, co24, eo24⟩ := Kd.R_slice HO109.out
          subst eo24
          go_wp2_with (first | ((with_reducible refine gate_callee (f := 19) rfl ?_); refine goesL_ (some 39) rfl rfl Try.func19 (by kernel_rfl) rfl #[.slice Ao23 t115.length co23, .slice Ao24 t105.length co24] rfl (by (try simp only [List.map_toArray, List.map_cons, List.map_nil]); first | done | rfl | (simp only [List.length_drop, List.length_take]; rfl)) ?_; (with_reducible refine (laws_eqStringS.calls k _ _ t115 _ _ t105 true _ ?side1 ?side2 ?side3 ?side4 A15.out).mono ?_); (case side1 => repeat (first | exact (Kd.R_reads' HO119.out).2.2 | (with_reducible refine Kd.C_alloc ?_ _) | (with_reducible refine Kd.C_drewN ?_ _) | (with_reducible refine Kd.C_drew ?_))); (case side2 => exact (Kd.R_reads' HO119.out).2.1); (case side3 => repeat (first | exact (Kd.R_reads' HO109.out).2.2 | (with_reducible refine Kd.C_alloc ?_ _) | (with_reducible refine Kd.C_drewN ?_ _) | (with_reducible refine Kd.C_drew ?_))); (case side4 => exact (Kd.R_reads' HO109.out).2.1); rintro e w' ⟨rfl, ⟨nd, rfl⟩⟩; refine ⟨_, rfl, ?_⟩; obtain ⟨Ao25, co25, eo25⟩ := Kd.R_slice HO121.out; subst eo25; obtain ⟨Ao26, co26, eo26⟩ := Kd.R_slice HO111.out; subst eo26) | (go_at_call 18; (with_reducible refine (laws_eqInt64S.calls k _ _ t116 _ _ t106 false _ ?side1 ?side2 ?side3 ?side4 A17.out).mono ?_); (case side1 => repeat (first | exact (Kd.R_reads' HO121.out).2.2 | (with_reducible refine Kd.C_alloc ?_ _) | (with_reducible refine Kd.C_drewN ?_ _) | (with_reducible refine Kd.C_drew ?_))); (case side2 => exact (Kd.R_reads' HO121.out).2.1); (case side3 => repeat (first | exact (Kd.R_reads' HO111.out).2.2 | (with_reducible refine Kd.C_alloc ?_ _) | (with_reducible refine Kd.C_drewN ?_ _) | (with_reducible refine Kd.C_drew ?_))); (case side4 => exact (Kd.R_reads' HO111.out).2.1); rintro e w' ⟨rfl, ⟨nd, rfl⟩⟩))
          go_meet
          case rel => exact ⟨_, (true), (by first | rfl | (simp; done) | (simp [*]; done)), H', ⟨by first | omega | exact Nat.le_refl _⟩, ⟨by (with_reducible repeat (first | apply Kd.R_alloc | apply Kd.R_drewN | apply Kd.R_drew)); exact Kd.R_mono HO109.out (fun _ hk => ⟨hk.1.2, hk.2⟩)⟩, ⟨by (with_reducible repeat (first | apply Kd.R_alloc | apply Kd.R_drewN | apply Kd.R_drew)); exact Kd.R_mono HO111.out (fun _ hk => hk.2)⟩, ⟨by (with_reducible repeat (first | apply Kd.R_alloc | apply Kd.R_drewN | apply Kd.R_drew)); exact Kd.R_mono HO114.out (fun _ hk => ⟨hk.1.2, hk.2⟩)⟩, ⟨by (with_reducible repeat (first | apply Kd.R_alloc | apply Kd.R_drewN | apply Kd.R_drew)); exact Kd.R_mono HO119.out (fun _ hk => ⟨hk.1.2, hk.2⟩)⟩, ⟨by (with_reducible repeat (first | apply Kd.R_alloc | apply Kd.R_drewN | apply Kd.R_drew)); exact Kd.R_mono HO121.out (fun _ hk => hk.2)⟩, ⟨by repeat (first | (with_reducible first | exact HB.out | apply below_alloc | apply pw_below_drewN | apply below_drew1) | exact HB.out)⟩⟩
      · replace c16 := Bool.eq_false_iff.mpr c16
        subst c16
        have H1 : (laws_FnExactCountLines.j0 k l0 t105 t106 t107 t112 t115 t116 t117 true) = some r := by rw [if_neg (show ¬ (false = true) by decide)] at H; exact H
        clear H
        have H := H1
        clear H1
        have H' := Aside0.mk H
        clear H
        obtain ⟨Ao27, co27, eo27⟩ := Kd.R_slice HO119.out
        subst eo27
        obtain ⟨Ao28, co28, eo28⟩ := Kd.R_slice HO109.out
        subst eo28
        go_wp2_with (first | ((with_reducible refine gate_callee (f := 19) rfl ?_); refine goesL_ (some 39) rfl rfl Try.func19 (by kernel_rfl) rfl #[.slice Ao27 t115.length co27, .slice Ao28 t105.length co28] rfl (by (try simp only [List.map_toArray, List.map_cons, List.map_nil]); first | done | rfl | (simp only [List.length_drop, List.length_take]; rfl)) ?_; (with_reducible refine (laws_eqStringS.calls k _ _ t115 _ _ t105 false _ ?side1 ?side2 ?side3 ?side4 A15.out).mono ?_); (case side1 => repeat (first | exact (Kd.R_reads' HO119.out).2.2 | (with_reducible refine Kd.C_alloc ?_ _) | (with_reducible refine Kd.C_drewN ?_ _) | (with_reducible refine Kd.C_drew ?_))); (case side2 => exact (Kd.R_reads' HO119.out).2.1); (case side3 => repeat (first | exact (Kd.R_reads' HO109.out).2.2 | (with_reducible refine Kd.C_alloc ?_ _) | (with_reducible refine Kd.C_drewN ?_ _) | (with_reducible refine Kd.C_drew ?_))); (case side4 => exact (Kd.R_reads' HO109.out).2.1); rintro e w' ⟨rfl, ⟨nd, rfl⟩⟩; refine ⟨_, rfl, ?_⟩))
        go_meet
        case rel => exact ⟨_, (true), (by first | rfl | (simp; done) | (simp [*]; done)), H', ⟨by first | omega | exact Nat.le_refl _⟩, ⟨by (with_reducible repeat (first | apply Kd.R_alloc | apply Kd.R_drewN | apply Kd.R_drew)); exact Kd.R_mono HO109.out (fun _ hk => ⟨hk.1.2, hk.2⟩)⟩, ⟨by (with_reducible repeat (first | apply Kd.R_alloc | apply Kd.R_drewN | apply Kd.R_drew)); exact Kd.R_mono HO111.out (fun _ hk => hk.2)⟩, ⟨by (with_reducible repeat (first | apply Kd.R_alloc | apply Kd.R_drewN | apply Kd.R_drew)); exact Kd.R_mono HO114.out (fun _ hk => ⟨hk.1.2, hk.2⟩)⟩, ⟨by (with_reducible repeat (first | apply Kd.R_alloc | apply Kd.R_drewN | apply Kd.R_drew)); exact Kd.R_mono HO119.out (fun _ hk => ⟨hk.1.2, hk.2⟩)⟩, ⟨by (with_reducible repeat (first | apply Kd.R_alloc | apply Kd.R_drewN | apply Kd.R_drew)); exact Kd.R_mono HO121.out (fun _ hk => hk.2)⟩, ⟨by repeat (first | (with_reducible first | exact HB.out | apply below_alloc | apply pw_below_drewN | apply below_drew1) | exact HB.out)⟩⟩
    case rest =>
      clear HC8
      try clear c1
      try clear p2
      try clear c3
      try clear c3b0
      try clear c5
      try clear c13
      try clear c14
      try clear c16
      try clear c18
      try clear c19
      obtain ⟨kq, x51_7, rfl, HA, HJ7, HO_4, HO_5, HO_7, HO_8, HO_9, HB⟩ := hcut
      cases kq with
      | zero => exact absurd HA.out (by simp [laws_FnExactCountLines.j0])
      | succ kj7 =>
        have H := HA.out
        clear HA
        simp only [laws_FnExactCountLines.j0] at H
        by_cases c29 : x51_7 = true
        · subst c29
          have H1 : (some false) = some r := by rw [if_pos rfl] at H; exact H
          clear H
          have H := H1
          clear H1
          obtain rfl := Option.some.inj H
          go_wp2
          go_ret
          exact ⟨by first | rfl | (simp [errW_none, errW_some] <;> rfl) | (simp [*, errW_none, errW_some] <;> rfl), by repeat (first | (with_reducible first | exact HB.out | apply below_alloc | apply pw_below_drewN | apply below_drew1) | exact HB.out)⟩
        · replace c29 := Bool.eq_false_iff.mpr c29
          subst c29
          have H1 : ((laws_toStringS.f kj7 l0).bind fun t124 => ((laws_eqStringS.f kj7 t112 t124).bind fun t127 => (if t127 = true then ((laws_markStringS.f kj7 t112 1).bind fun bt128 => (if bt128.1 < 0 then (laws_FnExactCountLines.j1 kj7 l0 t105 t106 t107 t115 t116 true) else ((laws_eqStringS.f kj7 t115 t105).bind fun t130 => (if t130 = true then ((laws_eqInt64S.f kj7 t116 t106).bind fun t131 => (if t131 = true then (laws_FnExactCountLines.j1 kj7 l0 t105 t106 t107 t115 t116 (t117 != t107)) else (laws_FnExactCountLines.j1 kj7 l0 t105 t106 t107 t115 t116 true))) else (laws_FnExactCountLines.j1 kj7 l0 t105 t106 t107 t115 t116 true))))) else (some false)))) = some r := by rw [if_neg (show ¬ (false = true) by decide)] at H; exact H
          clear H
          have H := H1
          clear H1
          replace H := Option.bind_eq_some_iff.mp H
          obtain ⟨t124, A300, H⟩ := H
          replace H : ((laws_eqStringS.f kj7 t112 t124).bind fun t127 => (if t127 = true then ((laws_markStringS.f kj7 t112 1).bind fun bt128 => (if bt128.1 < 0 then (laws_FnExactCountLines.j1 kj7 l0 t105 t106 t107 t115 t116 true) else ((laws_eqStringS.f kj7 t115 t105).bind fun t130 => (if t130 = true then ((laws_eqInt64S.f kj7 t116 t106).bind fun t131 => (if t131 = true then (laws_FnExactCountLines.j1 kj7 l0 t105 t106 t107 t115 t116 (t117 != t107)) else (laws_FnExactCountLines.j1 kj7 l0 t105 t106 t107 t115 t116 true))) else (laws_FnExactCountLines.j1 kj7 l0 t105 t106 t107 t115 t116 true))))) else (some false))) = some r := H
          have A30 := Aside0.mk A300
          clear A300
          replace H := Option.bind_eq_some_iff.mp H
          obtain ⟨t127, A310, H⟩ := H
          replace H : (if t127 = true then ((laws_markStringS.f kj7 t112 1).bind fun bt128 => (if bt128.1 < 0 then (laws_FnExactCountLines.j1 kj7 l0 t105 t106 t107 t115 t116 true) else ((laws_eqStringS.f kj7 t115 t105).bind fun t130 => (if t130 = true then ((laws_eqInt64S.f kj7 t116 t106).bind fun t131 => (if t131 = true then (laws_FnExactCountLines.j1 kj7 l0 t105 t106 t107 t115 t116 (t117 != t107)) else (laws_FnExactCountLines.j1 kj7 l0 t105 t106 t107 t115 t116 true))) else (laws_FnExactCountLines.j1 kj7 l0 t105 t106 t107 t115 t116 true))))) else (some false)) = some r := H
          have A31 := Aside0.mk A310
          clear A310
          by_cases c32 : t127 = true
          · subst c32
            have H1 : ((laws_markStringS.f kj7 t112 1).bind fun bt128 => (if bt128.1 < 0 then (laws_FnExactCountLines.j1 kj7 l0 t105 t106 t107 t115 t116 true) else ((laws_eqStringS.f kj7 t115 t105).bind fun t130 => (if t130 = true then ((laws_eqInt64S.f kj7 t116 t106).bind fun t131 => (if t131 = true then (laws_FnExactCountLines.j1 kj7 l0 t105 t106 t107 t115 t116 (t117 != t107)) else (laws_FnExactCountLines.j1 kj7 l0 t105 t106 t107 t115 t116 true))) else (laws_FnExactCountLines.j1 kj7 l0 t105 t106 t107 t115 t116 true))))) = some r := by rw [if_pos rfl] at H; exact H
            clear H
            have H := H1
            clear H1
            replace H := Option.bind_eq_some_iff.mp H
            obtain ⟨⟨t128, t129⟩, A330, H⟩ := H
            replace H : (if t128 < 0 then (laws_FnExactCountLines.j1 kj7 l0 t105 t106 t107 t115 t116 true) else ((laws_eqStringS.f kj7 t115 t105).bind fun t130 => (if t130 = true then ((laws_eqInt64S.f kj7 t116 t106).bind fun t131 => (if t131 = true then (laws_FnExactCountLines.j1 kj7 l0 t105 t106 t107 t115 t116 (t117 != t107)) else (laws_FnExactCountLines.j1 kj7 l0 t105 t106 t107 t115 t116 true))) else (laws_FnExactCountLines.j1 kj7 l0 t105 t106 t107 t115 t116 true)))) = some r := H
            have A33 := Aside0.mk A330
            clear A330
            have HC34 := Aside0.mk H
            clear H
            go_upto_region 14 with (first | ((with_reducible refine gate_callee (f := 16) rfl ?_); refine goesL_ (some 54) rfl rfl Try.func16 (by kernel_rfl) rfl #[.slice A0 l0.length c0] rfl (by (try simp only [List.map_toArray, List.map_cons, List.map_nil]); first | done | rfl | (simp only [List.length_drop, List.length_take]; rfl)) ?_; (with_reducible refine (laws_toStringS.calls kj7 _ _ l0 t124 _ ?side1 ?side2 A30.out).mono ?_); (case side1 => repeat (first | exact (Kd.C_below HR0.out HB.out) | (with_reducible refine Kd.C_alloc ?_ _) | (with_reducible refine Kd.C_drewN ?_ _) | (with_reducible refine Kd.C_drew ?_))); (case side2 => exact HC0.out); rintro e w35 ⟨v125, rfl, ho0, hb⟩; refine ⟨_, rfl, ?_⟩; have n0_ := Aside0.mk (Kd.R_elder' (by (with_reducible repeat (first | apply Kd.R_alloc | apply Kd.R_drewN | apply Kd.R_drew)); exact HO_4.out) (Kd.R_base ho0) hb); have n1_ := Aside0.mk (Kd.R_below (by (with_reducible repeat (first | apply Kd.R_alloc | apply Kd.R_drewN | apply Kd.R_drew)); exact HO_5.out) hb); have n2_ := Aside0.mk (Kd.R_elder' (by (with_reducible repeat (first | apply Kd.R_alloc | apply Kd.R_drewN | apply Kd.R_drew)); exact HO_7.out) (Kd.R_base ho0) hb); have n3_ := Aside0.mk (Kd.R_elder' (by (with_reducible repeat (first | apply Kd.R_alloc | apply Kd.R_drewN | apply Kd.R_drew)); exact HO_8.out) (Kd.R_base ho0) hb); have n4_ := Aside0.mk (Kd.R_below (by (with_reducible repeat (first | apply Kd.R_alloc | apply Kd.R_drewN | apply Kd.R_drew)); exact HO_9.out) hb); have n5_ := Aside0.mk (Kd.R_lower (Kd.R_new' (Kd.R_new' (Kd.R_new' ho0 (Kd.R_lt (by (with_reducible repeat (first | apply Kd.R_alloc | apply Kd.R_drewN | apply Kd.R_drew)); exact HO_4.out))) (Kd.R_lt (by (with_reducible repeat (first | apply Kd.R_alloc | apply Kd.R_drewN | apply Kd.R_drew)); exact HO_7.out))) (Kd.R_lt (by (with_reducible repeat (first | apply Kd.R_alloc | apply Kd.R_drewN | apply Kd.R_drew)); exact HO_8.out))) (below_size (by repeat (first | (with_reducible first | exact HB.out | apply below_alloc | apply pw_below_drewN | apply below_drew1) | exact HB.out)))); have n6_ := Aside0.mk (below_step (by repeat (first | (with_reducible first | exact HB.out | apply below_alloc | apply pw_below_drewN | apply below_drew1) | exact HB.out)) hb); clear HO_4; clear HO_5; clear HO_7; clear HO_8; clear HO_9; clear HB; have HO_4 := n0_; have HO_5 := n1_; have HO_7 := n2_; have HO_8 := n3_; have HO_9 := n4_; have HO126 := n5_; have HB := n6_; clear n0_ n1_ n2_ n3_ n4_ n5_ n6_; (try clear hb); (try clear hb2); (try clear hk); (try clear hi); (try clear ho0); obtain ⟨Ao36, co36, eo36⟩ := Kd.R_slice HO126.out; subst eo36) | ((with_reducible refine gate_callee (f := 19) rfl ?_); refine goesL_ (some 55) rfl rfl Try.func19 (by kernel_rfl) rfl #[.slice Ao13 t112.length co13, .slice Ao36 t124.length co36] rfl (by (try simp only [List.map_toArray, List.map_cons, List.map_nil]); first | done | rfl | (simp only [List.length_drop, List.length_take]; rfl)) ?_; (with_reducible refine (laws_eqStringS.calls kj7 _ _ t112 _ _ t124 true _ ?side1 ?side2 ?side3 ?side4 A31.out).mono ?_); (case side1 => repeat (first | exact (Kd.R_reads' HO_7.out).2.2 | (with_reducible refine Kd.C_alloc ?_ _) | (with_reducible refine Kd.C_drewN ?_ _) | (with_reducible refine Kd.C_drew ?_))); (case side2 => exact (Kd.R_reads' HO_7.out).2.1); (case side3 => repeat (first | exact (Kd.R_reads' HO126.out).2.2 | (with_reducible refine Kd.C_alloc ?_ _) | (with_reducible refine Kd.C_drewN ?_ _) | (with_reducible refine Kd.C_drew ?_))); (case side4 => exact (Kd.R_reads' HO126.out).2.1); rintro e w' ⟨rfl, ⟨nd, rfl⟩⟩; refine ⟨_, rfl, ?_⟩) | ((with_reducible refine gate_callee (f := 20) rfl ?_); refine goesL_ (some 59) rfl rfl Try.func20 (by kernel_rfl) rfl #[.slice Ao13 t112.length co13, .int .i64 1] rfl (by (try simp only [List.map_toArray, List.map_cons, List.map_nil]); first | done | rfl | (simp only [List.length_drop, List.length_take]; rfl)) ?_; (with_reducible refine (laws_markStringS.calls kj7 (fun k_ => some k_ = (.slice Ao13 t112.length co13 : Value).ownBlock) (.slice Ao13 t112.length co13) t112 1 t128 t129 w _ ?side1 ?side2 A33.out).mono ?_); (case side1 => repeat (first | (with_reducible first | exact HB.out | apply below_alloc | apply pw_below_drewN | apply below_drew1) | exact HB.out)); (case side2 => exact Kd.R_tight rfl HO_7.out); rintro e w37 ⟨rfl, hy0, hb, hkp⟩; refine ⟨_, rfl, ?_⟩; have n0_ := Aside0.mk (Kd.R_mono (ok' := fun k_ => some k_ ≠ (.slice Ao13 t112.length co13 : Value).ownBlock ∧ some k_ ≠ (v118 : Value).ownBlock ∧ some k_ ≠ (.slice Ao36 t124.length co36 : Value).ownBlock) (Kd.R_keptB (HO_4.out) hkp (fun k_ hk_ hs_ => (hk_.1.1) hs_)) (fun k_ hk_ => ⟨hk_.1.1.1, hk_.1.1.2, hk_.1.2⟩)); have n1_ := Aside0.mk (Kd.R_mono (ok' := fun k_ => some k_ ≠ (v120 : Value).ownBlock) (Kd.R_keptB ((Kd.R_apart' HO_5.out (Kd.R_typed HO_7.out) (by decide))) hkp (fun k_ hk_ hs_ => (hk_.2) hs_)) (fun k_ hk_ => hk_.1.1)); have n2_ := Aside0.mk (Kd.R_reok rfl hy0 (fun k_ e_ => HO_7.out.1 k_ e_)); have n3_ := Aside0.mk (Kd.R_mono (ok' := fun k_ => some k_ ≠ (v108 : Value).ownBlock ∧ some k_ ≠ (.slice Ao13 t112.length co13 : Value).ownBlock ∧ some k_ ≠ (.slice Ao36 t124.length co36 : Value).ownBlock) (Kd.R_keptB (HO_8.out) hkp (fun k_ hk_ hs_ => (hk_.1.2) hs_)) (fun k_ hk_ => ⟨hk_.1.1.1, hk_.1.1.2, hk_.1.2⟩)); have n4_ := Aside0.mk (Kd.R_mono (ok' := fun k_ => some k_ ≠ (v110 : Value).ownBlock) (Kd.R_keptB ((Kd.R_apart' HO_9.out (Kd.R_typed HO_7.out) (by decide))) hkp (fun k_ hk_ hs_ => (hk_.2) hs_)) (fun k_ hk_ => hk_.1.1)); have n5_ := Aside0.mk (Kd.R_mono (ok' := fun k_ => some k_ ≠ (v108 : Value).ownBlock ∧ some k_ ≠ (.slice Ao13 t112.length co13 : Value).ownBlock ∧ some k_ ≠ (v118 : Value).ownBlock) (Kd.R_keptB (HO126.out) hkp (fun k_ hk_ hs_ => (hk_.1.2) hs_)) (fun k_ hk_ => ⟨hk_.1.1.1.2, hk_.1.1.2, hk_.1.2⟩)); have n6_ := Aside0.mk (hb); clear HO_4; clear HO_5; clear HO_7; clear HO_8; clear HO_9; clear HO126; clear HB; have HO_4 := n0_; have HO_5 := n1_; have HO_7 := n2_; have HO_8 := n3_; have HO_9 := n4_; have HO126 := n5_; have HB := n6_; clear n0_ n1_ n2_ n3_ n4_ n5_ n6_; (try clear hb); (try clear hkp); (try clear hy0)))
            (try simp only [Act.put, List.setIfInBounds_toArray, List.set_cons_zero, List.set_cons_succ])
            go_cut [78] (fun v78 wc => ∃ (kq : Nat) (x78_33 : Bool), v78 = .bool x78_33 ∧ Aside0 (laws_FnExactCountLines.j1 kq l0 t105 t106 t107 t115 t116 x78_33 = some r) ∧ Aside0 (kq ≤ kj7) ∧ Aside0 (Kd.R Kd.string 9 wc w.heap.size (fun k_ => some k_ ≠ (v118 : Value).ownBlock) v108 t105) ∧ Aside0 (Kd.R (Kd.int .i64) 2 wc w.heap.size (fun k_ => some k_ ≠ (v120 : Value).ownBlock) v110 t106) ∧ Aside0 (Kd.R Kd.string 9 wc w.heap.size (fun k_ => some k_ ≠ (v108 : Value).ownBlock) v118 t115) ∧ Aside0 (Kd.R (Kd.int .i64) 2 wc w.heap.size (fun k_ => some k_ ≠ (v110 : Value).ownBlock) v120 t116) ∧ Aside0 (Below w.heap.size w wc))
            case first =>
              have H := HC34.out
              clear HC34
              by_cases c38 : t128 < 0
              · rw [if_pos c38] at H
                have c38b0 : decide (t128 < 0) = true := decide_eq_true c38
                clear c38
                (first | rw [c38b0] | (simp only [i64_w, i32_w]; rw [c38b0]) | skip)
                have H' := Aside0.mk H
                clear H
                go_wp2
                go_meet
                case rel => exact ⟨_, (true), (by first | rfl | (simp; done) | (simp [*]; done)), H', ⟨by have := HJ7.out; first | omega | exact Nat.le_refl _⟩, ⟨by (with_reducible repeat (first | apply Kd.R_alloc | apply Kd.R_drewN | apply Kd.R_drew)); exact Kd.R_mono HO_4.out (fun _ hk => hk.2.1)⟩, ⟨by (with_reducible repeat (first | apply Kd.R_alloc | apply Kd.R_drewN | apply Kd.R_drew)); exact HO_5.out⟩, ⟨by (with_reducible repeat (first | apply Kd.R_alloc | apply Kd.R_drewN | apply Kd.R_drew)); exact Kd.R_mono HO_8.out (fun _ hk => hk.1)⟩, ⟨by (with_reducible repeat (first | apply Kd.R_alloc | apply Kd.R_drewN | apply Kd.R_drew)); exact HO_9.out⟩, ⟨by repeat (first | (with_reducible first | exact HB.out | apply below_alloc | apply pw_below_drewN | apply below_drew1) | exact HB.out)⟩⟩
              · rw [if_neg c38] at H
                have c38b0 : decide (t128 < 0) = false := decide_eq_false c38
                clear c38
                (first | rw [c38b0] | (simp only [i64_w, i32_w]; rw [c38b0]) | skip)
                replace H := Option.bind_eq_some_iff.mp H
                obtain ⟨t130, A390, H⟩ := H
                replace H : (if t130 = true then ((laws_eqInt64S.f kj7 t116 t106).bind fun t131 => (if t131 = true then (laws_FnExactCountLines.j1 kj7 l0 t105 t106 t107 t115 t116 (t117 != t107)) else (laws_FnExactCountLines.j1 kj7 l0 t105 t106 t107 t115 t116 true))) else (laws_FnExactCountLines.j1 kj7 l0 t105 t106 t107 t115 t116 true)) = some r := H
                have A39 := Aside0.mk A390
                clear A390
                by_cases c40 : t130 = true
                · subst c40
                  have H1 : ((laws_eqInt64S.f kj7 t116 t106).bind fun t131 => (if t131 = true then (laws_FnExactCountLines.j1 kj7 l0 t105 t106 t107 t115 t116 (t117 != t107)) else (laws_FnExactCountLines.j1 kj7 l0 t105 t106 t107 t115 t116 true))) = some r := by rw [if_pos rfl] at H; exact H
                  clear H
                  have H := H1
                  clear H1
                  replace H := Option.bind_eq_some_iff.mp H
                  obtain ⟨t131, A410, H⟩ := H
                  replace H : (if t131 = true then (laws_FnExactCountLines.j1 kj7 l0 t105 t106 t107 t115 t116 (t117 != t107)) else (laws_FnExactCountLines.j1 kj7 l0 t105 t106 t107 t115 t116 true)) = some r := H
                  have A41 := Aside0.mk A410
                  clear A410
                  by_cases c42 : t131 = true
                  · subst c42
                    have H1 : (laws_FnExactCountLines.j1 kj7 l0 t105 t106 t107 t115 t116 (t117 != t107)) = some r := by rw [if_pos rfl] at H; exact H
                    clear H
                    have H := H1
                    clear H1
                    have H' := Aside0.mk H
                    clear H
                    obtain ⟨Ao43, co43, eo43⟩ := Kd.R_slice HO_8.out
                    subst eo43
                    obtain ⟨Ao44, co44, eo44⟩ := Kd.R_slice HO_4.out
                    subst eo44
                    go_wp2_with (first | (go_at_call 19; (with_reducible refine (laws_eqStringS.calls kj7 _ _ t115 _ _ t105 true _ ?side1 ?side2 ?side3 ?side4 A39.out).mono ?_); (case side1 => repeat (first | exact (Kd.R_reads' HO_8.out).2.2 | (with_reducible refine Kd.C_alloc ?_ _) | (with_reducible refine Kd.C_drewN ?_ _) | (with_reducible refine Kd.C_drew ?_))); (case side2 => exact (Kd.R_reads' HO_8.out).2.1); (case side3 => repeat (first | exact (Kd.R_reads' HO_4.out).2.2 | (with_reducible refine Kd.C_alloc ?_ _) | (with_reducible refine Kd.C_drewN ?_ _) | (with_reducible refine Kd.C_drew ?_))); (case side4 => exact (Kd.R_reads' HO_4.out).2.1); rintro e w' ⟨rfl, ⟨nd, rfl⟩⟩; obtain ⟨Ao45, co45, eo45⟩ := Kd.R_slice HO_9.out; subst eo45; obtain ⟨Ao46, co46, eo46⟩ := Kd.R_slice HO_5.out; subst eo46) | (go_at_call 18; (with_reducible refine (laws_eqInt64S.calls kj7 _ _ t116 _ _ t106 true _ ?side1 ?side2 ?side3 ?side4 A41.out).mono ?_); (case side1 => repeat (first | exact (Kd.R_reads' HO_9.out).2.2 | (with_reducible refine Kd.C_alloc ?_ _) | (with_reducible refine Kd.C_drewN ?_ _) | (with_reducible refine Kd.C_drew ?_))); (case side2 => exact (Kd.R_reads' HO_9.out).2.1); (case side3 => repeat (first | exact (Kd.R_reads' HO_5.out).2.2 | (with_reducible refine Kd.C_alloc ?_ _) | (with_reducible refine Kd.C_drewN ?_ _) | (with_reducible refine Kd.C_drew ?_))); (case side4 => exact (Kd.R_reads' HO_5.out).2.1); rintro e w' ⟨rfl, ⟨nd, rfl⟩⟩))
                    go_meet
                    case rel => exact ⟨_, ((t117 != t107)), (by first | rfl | (simp; done) | (simp [*]; done)), H', ⟨by have := HJ7.out; first | omega | exact Nat.le_refl _⟩, ⟨by (with_reducible repeat (first | apply Kd.R_alloc | apply Kd.R_drewN | apply Kd.R_drew)); exact Kd.R_mono HO_4.out (fun _ hk => hk.2.1)⟩, ⟨by (with_reducible repeat (first | apply Kd.R_alloc | apply Kd.R_drewN | apply Kd.R_drew)); exact HO_5.out⟩, ⟨by (with_reducible repeat (first | apply Kd.R_alloc | apply Kd.R_drewN | apply Kd.R_drew)); exact Kd.R_mono HO_8.out (fun _ hk => hk.1)⟩, ⟨by (with_reducible repeat (first | apply Kd.R_alloc | apply Kd.R_drewN | apply Kd.R_drew)); exact HO_9.out⟩, ⟨by repeat (first | (with_reducible first | exact HB.out | apply below_alloc | apply pw_below_drewN | apply below_drew1) | exact HB.out)⟩⟩
                  · replace c42 := Bool.eq_false_iff.mpr c42
                    subst c42
                    have H1 : (laws_FnExactCountLines.j1 kj7 l0 t105 t106 t107 t115 t116 true) = some r := by rw [if_neg (show ¬ (false = true) by decide)] at H; exact H
                    clear H
                    have H := H1
                    clear H1
                    have H' := Aside0.mk H
                    clear H
                    obtain ⟨Ao47, co47, eo47⟩ := Kd.R_slice HO_8.out
                    subst eo47
                    obtain ⟨Ao48, co48, eo48⟩ := Kd.R_slice HO_4.out
                    subst eo48
                    go_wp2_with (first | (go_at_call 19; (with_reducible refine (laws_eqStringS.calls kj7 _ _ t115 _ _ t105 true _ ?side1 ?side2 ?side3 ?side4 A39.out).mono ?_); (case side1 => repeat (first | exact (Kd.R_reads' HO_8.out).2.2 | (with_reducible refine Kd.C_alloc ?_ _) | (with_reducible refine Kd.C_drewN ?_ _) | (with_reducible refine Kd.C_drew ?_))); (case side2 => exact (Kd.R_reads' HO_8.out).2.1); (case side3 => repeat (first | exact (Kd.R_reads' HO_4.out).2.2 | (with_reducible refine Kd.C_alloc ?_ _) | (with_reducible refine Kd.C_drewN ?_ _) | (with_reducible refine Kd.C_drew ?_))); (case side4 => exact (Kd.R_reads' HO_4.out).2.1); rintro e w' ⟨rfl, ⟨nd, rfl⟩⟩; obtain ⟨Ao49, co49, eo49⟩ := Kd.R_slice HO_9.out; subst eo49; obtain ⟨Ao50, co50, eo50⟩ := Kd.R_slice HO_5.out; subst eo50) | (go_at_call 18; (with_reducible refine (laws_eqInt64S.calls kj7 _ _ t116 _ _ t106 false _ ?side1 ?side2 ?side3 ?side4 A41.out).mono ?_); (case side1 => repeat (first | exact (Kd.R_reads' HO_9.out).2.2 | (with_reducible refine Kd.C_alloc ?_ _) | (with_reducible refine Kd.C_drewN ?_ _) | (with_reducible refine Kd.C_drew ?_))); (case side2 => exact (Kd.R_reads' HO_9.out).2.1); (case side3 => repeat (first | exact (Kd.R_reads' HO_5.out).2.2 | (with_reducible refine Kd.C_alloc ?_ _) | (with_reducible refine Kd.C_drewN ?_ _) | (with_reducible refine Kd.C_drew ?_))); (case side4 => exact (Kd.R_reads' HO_5.out).2.1); rintro e w' ⟨rfl, ⟨nd, rfl⟩⟩))
                    go_meet
                    case rel => exact ⟨_, (true), (by first | rfl | (simp; done) | (simp [*]; done)), H', ⟨by have := HJ7.out; first | omega | exact Nat.le_refl _⟩, ⟨by (with_reducible repeat (first | apply Kd.R_alloc | apply Kd.R_drewN | apply Kd.R_drew)); exact Kd.R_mono HO_4.out (fun _ hk => hk.2.1)⟩, ⟨by (with_reducible repeat (first | apply Kd.R_alloc | apply Kd.R_drewN | apply Kd.R_drew)); exact HO_5.out⟩, ⟨by (with_reducible repeat (first | apply Kd.R_alloc | apply Kd.R_drewN | apply Kd.R_drew)); exact Kd.R_mono HO_8.out (fun _ hk => hk.1)⟩, ⟨by (with_reducible repeat (first | apply Kd.R_alloc | apply Kd.R_drewN | apply Kd.R_drew)); exact HO_9.out⟩, ⟨by repeat (first | (with_reducible first | exact HB.out | apply below_alloc | apply pw_below_drewN | apply below_drew1) | exact HB.out)⟩⟩
                · replace c40 := Bool.eq_false_iff.mpr c40
                  subst c40
                  have H1 : (laws_FnExactCountLines.j1 kj7 l0 t105 t106 t107 t115 t116 true) = some r := by rw [if_neg (show ¬ (false = true) by decide)] at H; exact H
                  clear H
                  have H := H1
                  clear H1
                  have H' := Aside0.mk H
                  clear H
                  obtain ⟨Ao51, co51, eo51⟩ := Kd.R_slice HO_8.out
                  subst eo51
                  obtain ⟨Ao52, co52, eo52⟩ := Kd.R_slice HO_4.out
                  subst eo52
                  go_wp2_with (first | (go_at_call 19; (with_reducible refine (laws_eqStringS.calls kj7 _ _ t115 _ _ t105 false _ ?side1 ?side2 ?side3 ?side4 A39.out).mono ?_); (case side1 => repeat (first | exact (Kd.R_reads' HO_8.out).2.2 | (with_reducible refine Kd.C_alloc ?_ _) | (with_reducible refine Kd.C_drewN ?_ _) | (with_reducible refine Kd.C_drew ?_))); (case side2 => exact (Kd.R_reads' HO_8.out).2.1); (case side3 => repeat (first | exact (Kd.R_reads' HO_4.out).2.2 | (with_reducible refine Kd.C_alloc ?_ _) | (with_reducible refine Kd.C_drewN ?_ _) | (with_reducible refine Kd.C_drew ?_))); (case side4 => exact (Kd.R_reads' HO_4.out).2.1); rintro e w' ⟨rfl, ⟨nd, rfl⟩⟩))
                  go_meet
                  case rel => exact ⟨_, (true), (by first | rfl | (simp; done) | (simp [*]; done)), H', ⟨by have := HJ7.out; first | omega | exact Nat.le_refl _⟩, ⟨by (with_reducible repeat (first | apply Kd.R_alloc | apply Kd.R_drewN | apply Kd.R_drew)); exact Kd.R_mono HO_4.out (fun _ hk => hk.2.1)⟩, ⟨by (with_reducible repeat (first | apply Kd.R_alloc | apply Kd.R_drewN | apply Kd.R_drew)); exact HO_5.out⟩, ⟨by (with_reducible repeat (first | apply Kd.R_alloc | apply Kd.R_drewN | apply Kd.R_drew)); exact Kd.R_mono HO_8.out (fun _ hk => hk.1)⟩, ⟨by (with_reducible repeat (first | apply Kd.R_alloc | apply Kd.R_drewN | apply Kd.R_drew)); exact HO_9.out⟩, ⟨by repeat (first | (with_reducible first | exact HB.out | apply below_alloc | apply pw_below_drewN | apply below_drew1) | exact HB.out)⟩⟩
            case rest =>
              clear HC34
              try clear c1
              try clear c2
              try clear p2
              try clear c3
              try clear c3b0
              try clear c4
              try clear c5
              try clear c13
              try clear c14
              try clear c16
              try clear c18
              try clear c19
              try clear c20
              try clear c29
              try clear c32
              try clear c38
              try clear c38b0
              try clear c40
              try clear c42
              try clear p2
              obtain ⟨kq, x78_33, rfl, HA, HJ33, HO_4, HO_5, HO_8, HO_9, HB⟩ := hcut
              cases kq with
              | zero => exact absurd HA.out (by simp [laws_FnExactCountLines.j1])
              | succ kj33 =>
                have H := HA.out
                clear HA
                simp only [laws_FnExactCountLines.j1] at H
                by_cases c53 : x78_33 = true
                · subst c53
                  have H1 : (some false) = some r := by rw [if_pos rfl] at H; exact H
                  clear H
                  have H := H1
                  clear H1
                  obtain rfl := Option.some.inj H
                  go_wp2
                  go_ret
                  exact ⟨by first | rfl | (simp [errW_none, errW_some] <;> rfl) | (simp [*, errW_none, errW_some] <;> rfl), by repeat (first | (with_reducible first | exact HB.out | apply below_alloc | apply pw_below_drewN | apply below_drew1) | exact HB.out)⟩
                · replace c53 := Bool.eq_false_iff.mpr c53
                  subst c53
                  have H1 : ((laws_markStringS.f kj33 t115 1).bind fun bt132 => ((laws_markInt64S.f kj33 t116 bt132.1).bind fun bt134 => ((laws_heldStringS.f kj33 bt132.2 1).bind fun t136 => (if t136 < 0 then (some false) else ((laws_heldInt64S.f kj33 bt134.2 t136).bind fun t137 => (if t137 < 0 then (some false) else (if t137 = bt134.1 then ((laws_toStringS.f kj33 l0).bind fun t138 => ((impl_CountLines.f kj33 t138).bind fun bt141 => ((laws_eqStringS.f kj33 bt141.1 t105).bind fun t148 => (if t148 = true then ((laws_eqInt64S.f kj33 bt141.2.1 t106).bind fun t149 => (if t149 = true then (laws_FnExactCountLines.j2 kj33 bt132.2 bt134.2 bt134.1 (bt141.2.2 != t107)) else (laws_FnExactCountLines.j2 kj33 bt132.2 bt134.2 bt134.1 true))) else (laws_FnExactCountLines.j2 kj33 bt132.2 bt134.2 bt134.1 true))))) else (some false)))))))) = some r := by rw [if_neg (show ¬ (false = true) by decide)] at H; exact H
                  clear H
                  have H := H1
                  clear H1
                  replace H := Option.bind_eq_some_iff.mp H
                  obtain ⟨⟨t132, t133⟩, A540, H⟩ := H
                  replace H : ((laws_markInt64S.f kj33 t116 t132).bind fun bt134 => ((laws_heldStringS.f kj33 t133 1).bind fun t136 => (if t136 < 0 then (some false) else ((laws_heldInt64S.f kj33 bt134.2 t136).bind fun t137 => (if t137 < 0 then (some false) else (if t137 = bt134.1 then ((laws_toStringS.f kj33 l0).bind fun t138 => ((impl_CountLines.f kj33 t138).bind fun bt141 => ((laws_eqStringS.f kj33 bt141.1 t105).bind fun t148 => (if t148 = true then ((laws_eqInt64S.f kj33 bt141.2.1 t106).bind fun t149 => (if t149 = true then (laws_FnExactCountLines.j2 kj33 t133 bt134.2 bt134.1 (bt141.2.2 != t107)) else (laws_FnExactCountLines.j2 kj33 t133 bt134.2 bt134.1 true))) else (laws_FnExactCountLines.j2 kj33 t133 bt134.2 bt134.1 true))))) else (some false))))))) = some r := H
                  have A54 := Aside0.mk A540
                  clear A540
                  replace H := Option.bind_eq_some_iff.mp H
                  obtain ⟨⟨t134, t135⟩, A550, H⟩ := H
                  replace H : ((laws_heldStringS.f kj33 t133 1).bind fun t136 => (if t136 < 0 then (some false) else ((laws_heldInt64S.f kj33 t135 t136).bind fun t137 => (if t137 < 0 then (some false) else (if t137 = t134 then ((laws_toStringS.f kj33 l0).bind fun t138 => ((impl_CountLines.f kj33 t138).bind fun bt141 => ((laws_eqStringS.f kj33 bt141.1 t105).bind fun t148 => (if t148 = true then ((laws_eqInt64S.f kj33 bt141.2.1 t106).bind fun t149 => (if t149 = true then (laws_FnExactCountLines.j2 kj33 t133 t135 t134 (bt141.2.2 != t107)) else (laws_FnExactCountLines.j2 kj33 t133 t135 t134 true))) else (laws_FnExactCountLines.j2 kj33 t133 t135 t134 true))))) else (some false)))))) = some r := H
                  have A55 := Aside0.mk A550
                  clear A550
                  replace H := Option.bind_eq_some_iff.mp H
                  obtain ⟨t136, A560, H⟩ := H
                  replace H : (if t136 < 0 then (some false) else ((laws_heldInt64S.f kj33 t135 t136).bind fun t137 => (if t137 < 0 then (some false) else (if t137 = t134 then ((laws_toStringS.f kj33 l0).bind fun t138 => ((impl_CountLines.f kj33 t138).bind fun bt141 => ((laws_eqStringS.f kj33 bt141.1 t105).bind fun t148 => (if t148 = true then ((laws_eqInt64S.f kj33 bt141.2.1 t106).bind fun t149 => (if t149 = true then (laws_FnExactCountLines.j2 kj33 t133 t135 t134 (bt141.2.2 != t107)) else (laws_FnExactCountLines.j2 kj33 t133 t135 t134 true))) else (laws_FnExactCountLines.j2 kj33 t133 t135 t134 true))))) else (some false))))) = some r := H
                  have A56 := Aside0.mk A560
                  clear A560
                  by_cases c57 : t136 < 0
                  · rw [if_pos c57] at H
                    have c57b0 : decide (t136 < 0) = true := decide_eq_true c57
                    clear c57
                    obtain rfl := Option.some.inj H
                    obtain ⟨Ao58, co58, eo58⟩ := Kd.R_slice HO_8.out
                    subst eo58
                    go_wp2_with (first | ((with_reducible refine gate_callee (f := 20) rfl ?_); refine goesL_ (some 81) rfl rfl Try.func20 (by kernel_rfl) rfl #[.slice Ao58 t115.length co58, .int .i64 1] rfl (by (try simp only [List.map_toArray, List.map_cons, List.map_nil]); first | done | rfl | (simp only [List.length_drop, List.length_take]; rfl)) ?_; (with_reducible refine (laws_markStringS.calls kj33 (fun k_ => some k_ = (.slice Ao58 t115.length co58 : Value).ownBlock) (.slice Ao58 t115.length co58) t115 1 t132 t133 w _ ?side1 ?side2 A54.out).mono ?_); (case side1 => repeat (first | (with_reducible first | exact HB.out | apply below_alloc | apply pw_below_drewN | apply below_drew1) | exact HB.out)); (case side2 => exact Kd.R_tight rfl HO_8.out); rintro e w59 ⟨rfl, hy0, hb, hkp⟩; refine ⟨_, rfl, ?_⟩; have n0_ := Aside0.mk (Kd.R_mono (ok' := fun k_ => some k_ ≠ (.slice Ao58 t115.length co58 : Value).ownBlock) (Kd.R_keptB (HO_4.out) hkp (fun k_ hk_ hs_ => (hk_) hs_)) (fun k_ hk_ => hk_.1)); have n1_ := Aside0.mk (Kd.R_mono (ok' := fun k_ => some k_ ≠ (v120 : Value).ownBlock) (Kd.R_keptB ((Kd.R_apart' HO_5.out (Kd.R_typed HO_8.out) (by decide))) hkp (fun k_ hk_ hs_ => (hk_.2) hs_)) (fun k_ hk_ => hk_.1.1)); have n2_ := Aside0.mk (Kd.R_reok rfl hy0 (fun k_ e_ => HO_8.out.1 k_ e_)); have n3_ := Aside0.mk (Kd.R_mono (ok' := fun k_ => some k_ ≠ (v110 : Value).ownBlock) (Kd.R_keptB ((Kd.R_apart' HO_9.out (Kd.R_typed HO_8.out) (by decide))) hkp (fun k_ hk_ hs_ => (hk_.2) hs_)) (fun k_ hk_ => hk_.1.1)); have n4_ := Aside0.mk (hb); clear HO_4; clear HO_5; clear HO_8; clear HO_9; clear HB; have HO_4 := n0_; have HO_5 := n1_; have HO_8 := n2_; have HO_9 := n3_; have HB := n4_; clear n0_ n1_ n2_ n3_ n4_; (try clear hb); (try clear hkp); (try clear hy0); obtain ⟨Ao60, co60, eo60⟩ := Kd.R_slice HO_9.out; subst eo60) | ((with_reducible refine gate_callee (f := 21) rfl ?_); refine goesL_ (some 84) rfl rfl Try.func21 (by kernel_rfl) rfl #[.slice Ao60 t116.length co60, .int .i64 t132] rfl (by (try simp only [List.map_toArray, List.map_cons, List.map_nil]); first | done | rfl | (simp only [List.length_drop, List.length_take]; rfl)) ?_; (with_reducible refine (laws_markInt64S.calls kj33 (fun k_ => some k_ = (.slice Ao60 t116.length co60 : Value).ownBlock) (.slice Ao60 t116.length co60) t116 t132 t134 t135 w _ ?side1 ?side2 A55.out).mono ?_); (case side1 => repeat (first | (with_reducible first | exact HB.out | apply below_alloc | apply pw_below_drewN | apply below_drew1) | exact HB.out)); (case side2 => exact Kd.R_tight rfl HO_9.out); rintro e w61 ⟨rfl, hy0, hb, hkp⟩; refine ⟨_, rfl, ?_⟩; have n0_ := Aside0.mk (Kd.R_mono (ok' := fun k_ => some k_ ≠ (.slice Ao58 t115.length co58 : Value).ownBlock) (Kd.R_keptB ((Kd.R_apart' HO_4.out (Kd.R_typed HO_9.out) (by decide))) hkp (fun k_ hk_ hs_ => (hk_.2) hs_)) (fun k_ hk_ => hk_.1.1)); have n1_ := Aside0.mk (Kd.R_mono (ok' := fun k_ => some k_ ≠ (.slice Ao60 t116.length co60 : Value).ownBlock) (Kd.R_keptB (HO_5.out) hkp (fun k_ hk_ hs_ => (hk_) hs_)) (fun k_ hk_ => hk_.1)); have n2_ := Aside0.mk (Kd.R_mono (ok' := fun k_ => some k_ ≠ (v108 : Value).ownBlock) (Kd.R_keptB ((Kd.R_apart' HO_8.out (Kd.R_typed HO_9.out) (by decide))) hkp (fun k_ hk_ hs_ => (hk_.2) hs_)) (fun k_ hk_ => hk_.1.1)); have n3_ := Aside0.mk (Kd.R_reok rfl hy0 (fun k_ e_ => HO_9.out.1 k_ e_)); have n4_ := Aside0.mk (hb); clear HO_4; clear HO_5; clear HO_8; clear HO_9; clear HB; have HO_4 := n0_; have HO_5 := n1_; have HO_8 := n2_; have HO_9 := n3_; have HB := n4_; clear n0_ n1_ n2_ n3_ n4_; (try clear hb); (try clear hkp); (try clear hy0)) | ((with_reducible refine gate_callee (f := 33) rfl ?_); refine goesL_ (some 87) rfl rfl Try.func33 (by kernel_rfl) rfl #[.slice Ao58 t133.length co58, .int .i64 1] rfl (by (try simp only [List.map_toArray, List.map_cons, List.map_nil]); first | done | (rw [show t133.length = t115.length from (Kd.R_reads' HO_8.out).1.symm] <;> rfl) | rfl | (simp only [List.length_drop, List.length_take]; rfl)) ?_; (with_reducible refine (laws_heldStringS.calls kj33 _ _ t133 1 t136 _ ?side1 ?side2 A56.out).mono ?_); (case side1 => repeat (first | exact (Kd.R_reads' HO_8.out).2.2 | (with_reducible refine Kd.C_alloc ?_ _) | (with_reducible refine Kd.C_drewN ?_ _) | (with_reducible refine Kd.C_drew ?_))); (case side2 => rw [show t133.length = t115.length from (Kd.R_reads' HO_8.out).1.symm]; exact (Kd.R_reads' HO_8.out).2.1); rintro e w62 ⟨rfl, hb⟩; refine ⟨_, rfl, ?_⟩; have n0_ := Aside0.mk (Kd.R_below (by (with_reducible repeat (first | apply Kd.R_alloc | apply Kd.R_drewN | apply Kd.R_drew)); exact HO_4.out) hb); have n1_ := Aside0.mk (Kd.R_below (by (with_reducible repeat (first | apply Kd.R_alloc | apply Kd.R_drewN | apply Kd.R_drew)); exact HO_5.out) hb); have n2_ := Aside0.mk (Kd.R_below (by (with_reducible repeat (first | apply Kd.R_alloc | apply Kd.R_drewN | apply Kd.R_drew)); exact HO_8.out) hb); have n3_ := Aside0.mk (Kd.R_below (by (with_reducible repeat (first | apply Kd.R_alloc | apply Kd.R_drewN | apply Kd.R_drew)); exact HO_9.out) hb); have n4_ := Aside0.mk (below_step (by repeat (first | (with_reducible first | exact HB.out | apply below_alloc | apply pw_below_drewN | apply below_drew1) | exact HB.out)) hb); clear HO_4; clear HO_5; clear HO_8; clear HO_9; clear HB; have HO_4 := n0_; have HO_5 := n1_; have HO_8 := n2_; have HO_9 := n3_; have HB := n4_; clear n0_ n1_ n2_ n3_ n4_; (try clear hb); (try clear hb2); (try clear hk); (try clear hi)))
                    go_ret
                    exact ⟨by first | rfl | (simp [errW_none, errW_some] <;> rfl) | (simp [*, errW_none, errW_some] <;> rfl), by repeat (first | (with_reducible first | exact HB.out | apply below_alloc | apply pw_below_drewN | apply below_drew1) | exact HB.out)⟩
                  · rw [if_neg c57] at H
                    have c57b0 : decide (t136 < 0) = false := decide_eq_false c57
                    clear c57
                    replace H := Option.bind_eq_some_iff.mp H
                    obtain ⟨t137, A630, H⟩ := H
                    replace H : (if t137 < 0 then (some false) else (if t137 = t134 then ((laws_toStringS.f kj33 l0).bind fun t138 => ((impl_CountLines.f kj33 t138).bind fun bt141 => ((laws_eqStringS.f kj33 bt141.1 t105).bind fun t148 => (if t148 = true then ((laws_eqInt64S.f kj33 bt141.2.1 t106).bind fun t149 => (if t149 = true then (laws_FnExactCountLines.j2 kj33 t133 t135 t134 (bt141.2.2 != t107)) else (laws_FnExactCountLines.j2 kj33 t133 t135 t134 true))) else (laws_FnExactCountLines.j2 kj33 t133 t135 t134 true))))) else (some false))) = some r := H
                    have A63 := Aside0.mk A630
                    clear A630
                    by_cases c64 : t137 < 0
                    · rw [if_pos c64] at H
                      have c64b0 : decide (t137 < 0) = true := decide_eq_true c64
                      clear c64
                      obtain rfl := Option.some.inj H
                      obtain ⟨Ao65, co65, eo65⟩ := Kd.R_slice HO_8.out
                      subst eo65
                      go_wp2_with (first | ((with_reducible refine gate_callee (f := 20) rfl ?_); refine goesL_ (some 81) rfl rfl Try.func20 (by kernel_rfl) rfl #[.slice Ao65 t115.length co65, .int .i64 1] rfl (by (try simp only [List.map_toArray, List.map_cons, List.map_nil]); first | done | rfl | (simp only [List.length_drop, List.length_take]; rfl)) ?_; (with_reducible refine (laws_markStringS.calls kj33 (fun k_ => some k_ = (.slice Ao65 t115.length co65 : Value).ownBlock) (.slice Ao65 t115.length co65) t115 1 t132 t133 w _ ?side1 ?side2 A54.out).mono ?_); (case side1 => repeat (first | (with_reducible first | exact HB.out | apply below_alloc | apply pw_below_drewN | apply below_drew1) | exact HB.out)); (case side2 => exact Kd.R_tight rfl HO_8.out); rintro e w66 ⟨rfl, hy0, hb, hkp⟩; refine ⟨_, rfl, ?_⟩; have n0_ := Aside0.mk (Kd.R_mono (ok' := fun k_ => some k_ ≠ (.slice Ao65 t115.length co65 : Value).ownBlock) (Kd.R_keptB (HO_4.out) hkp (fun k_ hk_ hs_ => (hk_) hs_)) (fun k_ hk_ => hk_.1)); have n1_ := Aside0.mk (Kd.R_mono (ok' := fun k_ => some k_ ≠ (v120 : Value).ownBlock) (Kd.R_keptB ((Kd.R_apart' HO_5.out (Kd.R_typed HO_8.out) (by decide))) hkp (fun k_ hk_ hs_ => (hk_.2) hs_)) (fun k_ hk_ => hk_.1.1)); have n2_ := Aside0.mk (Kd.R_reok rfl hy0 (fun k_ e_ => HO_8.out.1 k_ e_)); have n3_ := Aside0.mk (Kd.R_mono (ok' := fun k_ => some k_ ≠ (v110 : Value).ownBlock) (Kd.R_keptB ((Kd.R_apart' HO_9.out (Kd.R_typed HO_8.out) (by decide))) hkp (fun k_ hk_ hs_ => (hk_.2) hs_)) (fun k_ hk_ => hk_.1.1)); have n4_ := Aside0.mk (hb); clear HO_4; clear HO_5; clear HO_8; clear HO_9; clear HB; have HO_4 := n0_; have HO_5 := n1_; have HO_8 := n2_; have HO_9 := n3_; have HB := n4_; clear n0_ n1_ n2_ n3_ n4_; (try clear hb); (try clear hkp); (try clear hy0); obtain ⟨Ao67, co67, eo67⟩ := Kd.R_slice HO_9.out; subst eo67) | ((with_reducible refine gate_callee (f := 21) rfl ?_); refine goesL_ (some 84) rfl rfl Try.func21 (by kernel_rfl) rfl #[.slice Ao67 t116.length co67, .int .i64 t132] rfl (by (try simp only [List.map_toArray, List.map_cons, List.map_nil]); first | done | rfl | (simp only [List.length_drop, List.length_take]; rfl)) ?_; (with_reducible refine (laws_markInt64S.calls kj33 (fun k_ => some k_ = (.slice Ao67 t116.length co67 : Value).ownBlock) (.slice Ao67 t116.length co67) t116 t132 t134 t135 w _ ?side1 ?side2 A55.out).mono ?_); (case side1 => repeat (first | (with_reducible first | exact HB.out | apply below_alloc | apply pw_below_drewN | apply below_drew1) | exact HB.out)); (case side2 => exact Kd.R_tight rfl HO_9.out); rintro e w68 ⟨rfl, hy0, hb, hkp⟩; refine ⟨_, rfl, ?_⟩; have n0_ := Aside0.mk (Kd.R_mono (ok' := fun k_ => some k_ ≠ (.slice Ao65 t115.length co65 : Value).ownBlock) (Kd.R_keptB ((Kd.R_apart' HO_4.out (Kd.R_typed HO_9.out) (by decide))) hkp (fun k_ hk_ hs_ => (hk_.2) hs_)) (fun k_ hk_ => hk_.1.1)); have n1_ := Aside0.mk (Kd.R_mono (ok' := fun k_ => some k_ ≠ (.slice Ao67 t116.length co67 : Value).ownBlock) (Kd.R_keptB (HO_5.out) hkp (fun k_ hk_ hs_ => (hk_) hs_)) (fun k_ hk_ => hk_.1)); have n2_ := Aside0.mk (Kd.R_mono (ok' := fun k_ => some k_ ≠ (v108 : Value).ownBlock) (Kd.R_keptB ((Kd.R_apart' HO_8.out (Kd.R_typed HO_9.out) (by decide))) hkp (fun k_ hk_ hs_ => (hk_.2) hs_)) (fun k_ hk_ => hk_.1.1)); have n3_ := Aside0.mk (Kd.R_reok rfl hy0 (fun k_ e_ => HO_9.out.1 k_ e_)); have n4_ := Aside0.mk (hb); clear HO_4; clear HO_5; clear HO_8; clear HO_9; clear HB; have HO_4 := n0_; have HO_5 := n1_; have HO_8 := n2_; have HO_9 := n3_; have HB := n4_; clear n0_ n1_ n2_ n3_ n4_; (try clear hb); (try clear hkp); (try clear hy0)) | ((with_reducible refine gate_callee (f := 33) rfl ?_); refine goesL_ (some 87) rfl rfl Try.func33 (by kernel_rfl) rfl #[.slice Ao65 t133.length co65, .int .i64 1] rfl (by (try simp only [List.map_toArray, List.map_cons, List.map_nil]); first | done | (rw [show t133.length = t115.length from (Kd.R_reads' HO_8.out).1.symm] <;> rfl) | rfl | (simp only [List.length_drop, List.length_take]; rfl)) ?_; (with_reducible refine (laws_heldStringS.calls kj33 _ _ t133 1 t136 _ ?side1 ?side2 A56.out).mono ?_); (case side1 => repeat (first | exact (Kd.R_reads' HO_8.out).2.2 | (with_reducible refine Kd.C_alloc ?_ _) | (with_reducible refine Kd.C_drewN ?_ _) | (with_reducible refine Kd.C_drew ?_))); (case side2 => rw [show t133.length = t115.length from (Kd.R_reads' HO_8.out).1.symm]; exact (Kd.R_reads' HO_8.out).2.1); rintro e w69 ⟨rfl, hb⟩; refine ⟨_, rfl, ?_⟩; have n0_ := Aside0.mk (Kd.R_below (by (with_reducible repeat (first | apply Kd.R_alloc | apply Kd.R_drewN | apply Kd.R_drew)); exact HO_4.out) hb); have n1_ := Aside0.mk (Kd.R_below (by (with_reducible repeat (first | apply Kd.R_alloc | apply Kd.R_drewN | apply Kd.R_drew)); exact HO_5.out) hb); have n2_ := Aside0.mk (Kd.R_below (by (with_reducible repeat (first | apply Kd.R_alloc | apply Kd.R_drewN | apply Kd.R_drew)); exact HO_8.out) hb); have n3_ := Aside0.mk (Kd.R_below (by (with_reducible repeat (first | apply Kd.R_alloc | apply Kd.R_drewN | apply Kd.R_drew)); exact HO_9.out) hb); have n4_ := Aside0.mk (below_step (by repeat (first | (with_reducible first | exact HB.out | apply below_alloc | apply pw_below_drewN | apply below_drew1) | exact HB.out)) hb); clear HO_4; clear HO_5; clear HO_8; clear HO_9; clear HB; have HO_4 := n0_; have HO_5 := n1_; have HO_8 := n2_; have HO_9 := n3_; have HB := n4_; clear n0_ n1_ n2_ n3_ n4_; (try clear hb); (try clear hb2); (try clear hk); (try clear hi)) | ((with_reducible refine gate_callee (f := 22) rfl ?_); refine goesL_ (some 92) rfl rfl Try.func22 (by kernel_rfl) rfl #[.slice Ao67 t135.length co67, .int .i64 t136] rfl (by (try simp only [List.map_toArray, List.map_cons, List.map_nil]); first | done | (rw [show t135.length = t116.length from (Kd.R_reads' HO_9.out).1.symm] <;> rfl) | rfl | (simp only [List.length_drop, List.length_take]; rfl)) ?_; (with_reducible refine (laws_heldInt64S.calls kj33 _ _ t135 t136 t137 _ ?side1 ?side2 A63.out).mono ?_); (case side1 => repeat (first | exact (Kd.R_reads' HO_9.out).2.2 | (with_reducible refine Kd.C_alloc ?_ _) | (with_reducible refine Kd.C_drewN ?_ _) | (with_reducible refine Kd.C_drew ?_))); (case side2 => rw [show t135.length = t116.length from (Kd.R_reads' HO_9.out).1.symm]; exact (Kd.R_reads' HO_9.out).2.1); rintro e w' ⟨rfl, ⟨nd, rfl⟩⟩; refine ⟨_, rfl, ?_⟩))
                      go_ret
                      exact ⟨by first | rfl | (simp [errW_none, errW_some] <;> rfl) | (simp [*, errW_none, errW_some] <;> rfl), by repeat (first | (with_reducible first | exact HB.out | apply below_alloc | apply pw_below_drewN | apply below_drew1) | exact HB.out)⟩
                    · rw [if_neg c64] at H
                      have c64b0 : decide (t137 < 0) = false := decide_eq_false c64
                      clear c64
                      by_cases c70 : t137 = t134
                      · rw [if_pos c70] at H
                        have c70b0 : (t137 == t134) = true := beq_iff_eq.mpr c70
                        have c70b1 : (t137 != t134) = false := bne_eq_false_iff_eq.mpr c70
                        clear c70
                        replace H := Option.bind_eq_some_iff.mp H
                        obtain ⟨t138, A710, H⟩ := H
                        replace H : ((impl_CountLines.f kj33 t138).bind fun bt141 => ((laws_eqStringS.f kj33 bt141.1 t105).bind fun t148 => (if t148 = true then ((laws_eqInt64S.f kj33 bt141.2.1 t106).bind fun t149 => (if t149 = true then (laws_FnExactCountLines.j2 kj33 t133 t135 t134 (bt141.2.2 != t107)) else (laws_FnExactCountLines.j2 kj33 t133 t135 t134 true))) else (laws_FnExactCountLines.j2 kj33 t133 t135 t134 true)))) = some r := H
                        have A71 := Aside0.mk A710
                        clear A710
                        replace H := Option.bind_eq_some_iff.mp H
                        obtain ⟨⟨t141, t142, t143⟩, A720, H⟩ := H
                        replace H : ((laws_eqStringS.f kj33 t141 t105).bind fun t148 => (if t148 = true then ((laws_eqInt64S.f kj33 t142 t106).bind fun t149 => (if t149 = true then (laws_FnExactCountLines.j2 kj33 t133 t135 t134 (t143 != t107)) else (laws_FnExactCountLines.j2 kj33 t133 t135 t134 true))) else (laws_FnExactCountLines.j2 kj33 t133 t135 t134 true))) = some r := H
                        have A72 := Aside0.mk A720
                        clear A720
                        have HC73 := Aside0.mk H
                        clear H
                        obtain ⟨Ao74, co74, eo74⟩ := Kd.R_slice HO_8.out
                        subst eo74
                        go_upto_region 29 with (first | ((with_reducible refine gate_callee (f := 20) rfl ?_); refine goesL_ (some 81) rfl rfl Try.func20 (by kernel_rfl) rfl #[.slice Ao74 t115.length co74, .int .i64 1] rfl (by (try simp only [List.map_toArray, List.map_cons, List.map_nil]); first | done | rfl | (simp only [List.length_drop, List.length_take]; rfl)) ?_; (with_reducible refine (laws_markStringS.calls kj33 (fun k_ => some k_ = (.slice Ao74 t115.length co74 : Value).ownBlock) (.slice Ao74 t115.length co74) t115 1 t132 t133 w _ ?side1 ?side2 A54.out).mono ?_); (case side1 => repeat (first | (with_reducible first | exact HB.out | apply below_alloc | apply pw_below_drewN | apply below_drew1) | exact HB.out)); (case side2 => exact Kd.R_tight rfl HO_8.out); rintro e w75 ⟨rfl, hy0, hb, hkp⟩; refine ⟨_, rfl, ?_⟩; have n0_ := Aside0.mk (Kd.R_mono (ok' := fun k_ => some k_ ≠ (.slice Ao74 t115.length co74 : Value).ownBlock) (Kd.R_keptB (HO_4.out) hkp (fun k_ hk_ hs_ => (hk_) hs_)) (fun k_ hk_ => hk_.1)); have n1_ := Aside0.mk (Kd.R_mono (ok' := fun k_ => some k_ ≠ (v120 : Value).ownBlock) (Kd.R_keptB ((Kd.R_apart' HO_5.out (Kd.R_typed HO_8.out) (by decide))) hkp (fun k_ hk_ hs_ => (hk_.2) hs_)) (fun k_ hk_ => hk_.1.1)); have n2_ := Aside0.mk (Kd.R_reok rfl hy0 (fun k_ e_ => HO_8.out.1 k_ e_)); have n3_ := Aside0.mk (Kd.R_mono (ok' := fun k_ => some k_ ≠ (v110 : Value).ownBlock) (Kd.R_keptB ((Kd.R_apart' HO_9.out (Kd.R_typed HO_8.out) (by decide))) hkp (fun k_ hk_ hs_ => (hk_.2) hs_)) (fun k_ hk_ => hk_.1.1)); have n4_ := Aside0.mk (hb); clear HO_4; clear HO_5; clear HO_8; clear HO_9; clear HB; have HO_4 := n0_; have HO_5 := n1_; have HO_8 := n2_; have HO_9 := n3_; have HB := n4_; clear n0_ n1_ n2_ n3_ n4_; (try clear hb); (try clear hkp); (try clear hy0); obtain ⟨Ao76, co76, eo76⟩ := Kd.R_slice HO_9.out; subst eo76) | ((with_reducible refine gate_callee (f := 21) rfl ?_); refine goesL_ (some 84) rfl rfl Try.func21 (by kernel_rfl) rfl #[.slice Ao76 t116.length co76, .int .i64 t132] rfl (by (try simp only [List.map_toArray, List.map_cons, List.map_nil]); first | done | rfl | (simp only [List.length_drop, List.length_take]; rfl)) ?_; (with_reducible refine (laws_markInt64S.calls kj33 (fun k_ => some k_ = (.slice Ao76 t116.length co76 : Value).ownBlock) (.slice Ao76 t116.length co76) t116 t132 t134 t135 w _ ?side1 ?side2 A55.out).mono ?_); (case side1 => repeat (first | (with_reducible first | exact HB.out | apply below_alloc | apply pw_below_drewN | apply below_drew1) | exact HB.out)); (case side2 => exact Kd.R_tight rfl HO_9.out); rintro e w77 ⟨rfl, hy0, hb, hkp⟩; refine ⟨_, rfl, ?_⟩; have n0_ := Aside0.mk (Kd.R_mono (ok' := fun k_ => some k_ ≠ (.slice Ao74 t115.length co74 : Value).ownBlock) (Kd.R_keptB ((Kd.R_apart' HO_4.out (Kd.R_typed HO_9.out) (by decide))) hkp (fun k_ hk_ hs_ => (hk_.2) hs_)) (fun k_ hk_ => hk_.1.1)); have n1_ := Aside0.mk (Kd.R_mono (ok' := fun k_ => some k_ ≠ (.slice Ao76 t116.length co76 : Value).ownBlock) (Kd.R_keptB (HO_5.out) hkp (fun k_ hk_ hs_ => (hk_) hs_)) (fun k_ hk_ => hk_.1)); have n2_ := Aside0.mk (Kd.R_mono (ok' := fun k_ => some k_ ≠ (v108 : Value).ownBlock) (Kd.R_keptB ((Kd.R_apart' HO_8.out (Kd.R_typed HO_9.out) (by decide))) hkp (fun k_ hk_ hs_ => (hk_.2) hs_)) (fun k_ hk_ => hk_.1.1)); have n3_ := Aside0.mk (Kd.R_reok rfl hy0 (fun k_ e_ => HO_9.out.1 k_ e_)); have n4_ := Aside0.mk (hb); clear HO_4; clear HO_5; clear HO_8; clear HO_9; clear HB; have HO_4 := n0_; have HO_5 := n1_; have HO_8 := n2_; have HO_9 := n3_; have HB := n4_; clear n0_ n1_ n2_ n3_ n4_; (try clear hb); (try clear hkp); (try clear hy0)) | ((with_reducible refine gate_callee (f := 33) rfl ?_); refine goesL_ (some 87) rfl rfl Try.func33 (by kernel_rfl) rfl #[.slice Ao74 t133.length co74, .int .i64 1] rfl (by (try simp only [List.map_toArray, List.map_cons, List.map_nil]); first | done | (rw [show t133.length = t115.length from (Kd.R_reads' HO_8.out).1.symm] <;> rfl) | rfl | (simp only [List.length_drop, List.length_take]; rfl)) ?_; (with_reducible refine (laws_heldStringS.calls kj33 _ _ t133 1 t136 _ ?side1 ?side2 A56.out).mono ?_); (case side1 => repeat (first | exact (Kd.R_reads' HO_8.out).2.2 | (with_reducible refine Kd.C_alloc ?_ _) | (with_reducible refine Kd.C_drewN ?_ _) | (with_reducible refine Kd.C_drew ?_))); (case side2 => rw [show t133.length = t115.length from (Kd.R_reads' HO_8.out).1.symm]; exact (Kd.R_reads' HO_8.out).2.1); rintro e w78 ⟨rfl, hb⟩; refine ⟨_, rfl, ?_⟩; have n0_ := Aside0.mk (Kd.R_below (by (with_reducible repeat (first | apply Kd.R_alloc | apply Kd.R_drewN | apply Kd.R_drew)); exact HO_4.out) hb); have n1_ := Aside0.mk (Kd.R_below (by (with_reducible repeat (first | apply Kd.R_alloc | apply Kd.R_drewN | apply Kd.R_drew)); exact HO_5.out) hb); have n2_ := Aside0.mk (Kd.R_below (by (with_reducible repeat (first | apply Kd.R_alloc | apply Kd.R_drewN | apply Kd.R_drew)); exact HO_8.out) hb); have n3_ := Aside0.mk (Kd.R_below (by (with_reducible repeat (first | apply Kd.R_alloc | apply Kd.R_drewN | apply Kd.R_drew)); exact HO_9.out) hb); have n4_ := Aside0.mk (below_step (by repeat (first | (with_reducible first | exact HB.out | apply below_alloc | apply pw_below_drewN | apply below_drew1) | exact HB.out)) hb); clear HO_4; clear HO_5; clear HO_8; clear HO_9; clear HB; have HO_4 := n0_; have HO_5 := n1_; have HO_8 := n2_; have HO_9 := n3_; have HB := n4_; clear n0_ n1_ n2_ n3_ n4_; (try clear hb); (try clear hb2); (try clear hk); (try clear hi)) | ((with_reducible refine gate_callee (f := 22) rfl ?_); refine goesL_ (some 92) rfl rfl Try.func22 (by kernel_rfl) rfl #[.slice Ao76 t135.length co76, .int .i64 t136] rfl (by (try simp only [List.map_toArray, List.map_cons, List.map_nil]); first | done | (rw [show t135.length = t116.length from (Kd.R_reads' HO_9.out).1.symm] <;> rfl) | rfl | (simp only [List.length_drop, List.length_take]; rfl)) ?_; (with_reducible refine (laws_heldInt64S.calls kj33 _ _ t135 t136 t137 _ ?side1 ?side2 A63.out).mono ?_); (case side1 => repeat (first | exact (Kd.R_reads' HO_9.out).2.2 | (with_reducible refine Kd.C_alloc ?_ _) | (with_reducible refine Kd.C_drewN ?_ _) | (with_reducible refine Kd.C_drew ?_))); (case side2 => rw [show t135.length = t116.length from (Kd.R_reads' HO_9.out).1.symm]; exact (Kd.R_reads' HO_9.out).2.1); rintro e w' ⟨rfl, ⟨nd, rfl⟩⟩; refine ⟨_, rfl, ?_⟩) | ((with_reducible refine gate_callee (f := 16) rfl ?_); refine goesL_ (some 100) rfl rfl Try.func16 (by kernel_rfl) rfl #[.slice A0 l0.length c0] rfl (by (try simp only [List.map_toArray, List.map_cons, List.map_nil]); first | done | rfl | (simp only [List.length_drop, List.length_take]; rfl)) ?_; (with_reducible refine (laws_toStringS.calls kj33 _ _ l0 t138 _ ?side1 ?side2 A71.out).mono ?_); (case side1 => repeat (first | exact (Kd.C_below HR0.out (by repeat (first | (with_reducible first | exact HB.out | apply below_alloc | apply pw_below_drewN | apply below_drew1) | exact HB.out))) | (with_reducible refine Kd.C_alloc ?_ _) | (with_reducible refine Kd.C_drewN ?_ _) | (with_reducible refine Kd.C_drew ?_))); (case side2 => exact HC0.out); rintro e w79 ⟨v139, rfl, ho0, hb⟩; refine ⟨_, rfl, ?_⟩; have n0_ := Aside0.mk (Kd.R_elder' (by (with_reducible repeat (first | apply Kd.R_alloc | apply Kd.R_drewN | apply Kd.R_drew)); exact HO_4.out) (Kd.R_base ho0) hb); have n1_ := Aside0.mk (Kd.R_below (by (with_reducible repeat (first | apply Kd.R_alloc | apply Kd.R_drewN | apply Kd.R_drew)); exact HO_5.out) hb); have n2_ := Aside0.mk (Kd.R_elder' (by (with_reducible repeat (first | apply Kd.R_alloc | apply Kd.R_drewN | apply Kd.R_drew)); exact HO_8.out) (Kd.R_base ho0) hb); have n3_ := Aside0.mk (Kd.R_below (by (with_reducible repeat (first | apply Kd.R_alloc | apply Kd.R_drewN | apply Kd.R_drew)); exact HO_9.out) hb); have n4_ := Aside0.mk (Kd.R_lower (Kd.R_new' (Kd.R_new' ho0 (Kd.R_lt (by (with_reducible repeat (first | apply Kd.R_alloc | apply Kd.R_drewN | apply Kd.R_drew)); exact HO_4.out))) (Kd.R_lt (by (with_reducible repeat (first | apply Kd.R_alloc | apply Kd.R_drewN | apply Kd.R_drew)); exact HO_8.out))) (below_size (by repeat (first | (with_reducible first | exact HB.out | apply below_alloc | apply pw_below_drewN | apply below_drew1) | exact HB.out)))); have n5_ := Aside0.mk (below_step (by repeat (first | (with_reducible first | exact HB.out | apply below_alloc | apply pw_below_drewN | apply below_drew1) | exact HB.out)) hb); clear HO_4; clear HO_5; clear HO_8; clear HO_9; clear HB; have HO_4 := n0_; have HO_5 := n1_; have HO_8 := n2_; have HO_9 := n3_; have HO140 := n4_; have HB := n5_; clear n0_ n1_ n2_ n3_ n4_ n5_; (try clear hb); (try clear hb2); (try clear hk); (try clear hi); (try clear ho0); obtain ⟨Ao80, co80, eo80⟩ := Kd.R_slice HO140.out; subst eo80) | ((with_reducible refine gate_callee (f := 56) rfl ?_); refine goesL_ (some 101) rfl rfl Try.func56 (by kernel_rfl) rfl #[.slice Ao80 t138.length co80] rfl (by (try simp only [List.map_toArray, List.map_cons, List.map_nil]); first | done | rfl | (simp only [List.length_drop, List.length_take]; rfl)) ?_; (with_reducible refine (impl_CountLines.calls kj33 _ _ t138 t141 t142 t143 _ ?side1 ?side2 A72.out).mono ?_); (case side1 => repeat (first | exact (Kd.R_reads' HO140.out).2.2 | (with_reducible refine Kd.C_alloc ?_ _) | (with_reducible refine Kd.C_drewN ?_ _) | (with_reducible refine Kd.C_drew ?_))); (case side2 => exact (Kd.R_reads' HO140.out).2.1); rintro e w81 ⟨v144, v146, rfl, ho0, ho1, hb⟩; refine ⟨_, rfl, ?_⟩; have n0_ := Aside0.mk (Kd.R_elder' (by (with_reducible repeat (first | apply Kd.R_alloc | apply Kd.R_drewN | apply Kd.R_drew)); exact HO_4.out) (Kd.R_base ho0) hb); have n1_ := Aside0.mk (Kd.R_elder' (by (with_reducible repeat (first | apply Kd.R_alloc | apply Kd.R_drewN | apply Kd.R_drew)); exact HO_5.out) (Kd.R_base ho1) hb); have n2_ := Aside0.mk (Kd.R_elder' (by (with_reducible repeat (first | apply Kd.R_alloc | apply Kd.R_drewN | apply Kd.R_drew)); exact HO_8.out) (Kd.R_base ho0) hb); have n3_ := Aside0.mk (Kd.R_elder' (by (with_reducible repeat (first | apply Kd.R_alloc | apply Kd.R_drewN | apply Kd.R_drew)); exact HO_9.out) (Kd.R_base ho1) hb); have n4_ := Aside0.mk (Kd.R_elder' (by (with_reducible repeat (first | apply Kd.R_alloc | apply Kd.R_drewN | apply Kd.R_drew)); exact HO140.out) (Kd.R_base ho0) hb); have n5_ := Aside0.mk (Kd.R_lower (Kd.R_new' (Kd.R_new' (Kd.R_new' ho0 (Kd.R_lt (by (with_reducible repeat (first | apply Kd.R_alloc | apply Kd.R_drewN | apply Kd.R_drew)); exact HO_4.out))) (Kd.R_lt (by (with_reducible repeat (first | apply Kd.R_alloc | apply Kd.R_drewN | apply Kd.R_drew)); exact HO_8.out))) (Kd.R_lt (by (with_reducible repeat (first | apply Kd.R_alloc | apply Kd.R_drewN | apply Kd.R_drew)); exact HO140.out))) (below_size (by repeat (first | (with_reducible first | exact HB.out | apply below_alloc | apply pw_below_drewN | apply below_drew1) | exact HB.out)))); have n6_ := Aside0.mk (Kd.R_lower (Kd.R_new' (Kd.R_new' ho1 (Kd.R_lt (by (with_reducible repeat (first | apply Kd.R_alloc | apply Kd.R_drewN | apply Kd.R_drew)); exact HO_5.out))) (Kd.R_lt (by (with_reducible repeat (first | apply Kd.R_alloc | apply Kd.R_drewN | apply Kd.R_drew)); exact HO_9.out))) (below_size (by repeat (first | (with_reducible first | exact HB.out | apply below_alloc | apply pw_below_drewN | apply below_drew1) | exact HB.out)))); have n7_ := Aside0.mk (below_step (by repeat (first | (with_reducible first | exact HB.out | apply below_alloc | apply pw_below_drewN | apply below_drew1) | exact HB.out)) hb); clear HO_4; clear HO_5; clear HO_8; clear HO_9; clear HO140; clear HB; have HO_4 := n0_; have HO_5 := n1_; have HO_8 := n2_; have HO_9 := n3_; have HO140 := n4_; have HO145 := n5_; have HO147 := n6_; have HB := n7_; clear n0_ n1_ n2_ n3_ n4_ n5_ n6_ n7_; (try clear hb); (try clear hb2); (try clear hk); (try clear hi); (try clear ho0); (try clear ho1)))
                        (try simp only [Act.put, List.setIfInBounds_toArray, List.set_cons_zero, List.set_cons_succ])
                        go_cut [119] (fun v119 wc => ∃ (kq : Nat) (x119_72 : Bool), v119 = .bool x119_72 ∧ Aside0 (laws_FnExactCountLines.j2 kq t133 t135 t134 x119_72 = some r) ∧ Aside0 (kq ≤ kj33) ∧ Aside0 (Kd.R Kd.string 9 wc w.heap.size (fun _ => True) (.slice Ao74 t115.length co74) t133) ∧ Aside0 (Kd.R (Kd.int .i64) 2 wc w.heap.size (fun _ => True) (.slice Ao76 t116.length co76) t135) ∧ Aside0 (Below w.heap.size w wc))
                        case first =>
                          have H := HC73.out
                          clear HC73
                          replace H := Option.bind_eq_some_iff.mp H
                          obtain ⟨t148, A820, H⟩ := H
                          replace H : (if t148 = true then ((laws_eqInt64S.f kj33 t142 t106).bind fun t149 => (if t149 = true then (laws_FnExactCountLines.j2 kj33 t133 t135 t134 (t143 != t107)) else (laws_FnExactCountLines.j2 kj33 t133 t135 t134 true))) else (laws_FnExactCountLines.j2 kj33 t133 t135 t134 true)) = some r := H
                          have A82 := Aside0.mk A820
                          clear A820
                          by_cases c83 : t148 = true
                          · subst c83
                            have H1 : ((laws_eqInt64S.f kj33 t142 t106).bind fun t149 => (if t149 = true then (laws_FnExactCountLines.j2 kj33 t133 t135 t134 (t143 != t107)) else (laws_FnExactCountLines.j2 kj33 t133 t135 t134 true))) = some r := by rw [if_pos rfl] at H; exact H
                            clear H
                            have H := H1
                            clear H1
                            replace H := Option.bind_eq_some_iff.mp H
                            obtain ⟨t149, A840, H⟩ := H
                            replace H : (if t149 = true then (laws_FnExactCountLines.j2 kj33 t133 t135 t134 (t143 != t107)) else (laws_FnExactCountLines.j2 kj33 t133 t135 t134 true)) = some r := H
                            have A84 := Aside0.mk A840
                            clear A840
                            by_cases c85 : t149 = true
                            · subst c85
                              have H1 : (laws_FnExactCountLines.j2 kj33 t133 t135 t134 (t143 != t107)) = some r := by rw [if_pos rfl] at H; exact H
                              clear H
                              have H := H1
                              clear H1
                              have H' := Aside0.mk H
                              clear H
                              obtain ⟨Ao86, co86, eo86⟩ := Kd.R_slice HO145.out
                              subst eo86
                              obtain ⟨Ao87, co87, eo87⟩ := Kd.R_slice HO_4.out
                              subst eo87
                              go_wp2_with (first | ((with_reducible refine gate_callee (f := 19) rfl ?_); refine goesL_ (some 107) rfl rfl Try.func19 (by kernel_rfl) rfl #[.slice Ao86 t141.length co86, .slice Ao87 t105.length co87] rfl (by (try simp only [List.map_toArray, List.map_cons, List.map_nil]); first | done | rfl | (simp only [List.length_drop, List.length_take]; rfl)) ?_; (with_reducible refine (laws_eqStringS.calls kj33 _ _ t141 _ _ t105 true _ ?side1 ?side2 ?side3 ?side4 A82.out).mono ?_); (case side1 => repeat (first | exact (Kd.R_reads' HO145.out).2.2 | (with_reducible refine Kd.C_alloc ?_ _) | (with_reducible refine Kd.C_drewN ?_ _) | (with_reducible refine Kd.C_drew ?_))); (case side2 => exact (Kd.R_reads' HO145.out).2.1); (case side3 => repeat (first | exact (Kd.R_reads' HO_4.out).2.2 | (with_reducible refine Kd.C_alloc ?_ _) | (with_reducible refine Kd.C_drewN ?_ _) | (with_reducible refine Kd.C_drew ?_))); (case side4 => exact (Kd.R_reads' HO_4.out).2.1); rintro e w' ⟨rfl, ⟨nd, rfl⟩⟩; refine ⟨_, rfl, ?_⟩; obtain ⟨Ao88, co88, eo88⟩ := Kd.R_slice HO147.out; subst eo88; obtain ⟨Ao89, co89, eo89⟩ := Kd.R_slice HO_5.out; subst eo89) | (go_at_call 18; (with_reducible refine (laws_eqInt64S.calls kj33 _ _ t142 _ _ t106 true _ ?side1 ?side2 ?side3 ?side4 A84.out).mono ?_); (case side1 => repeat (first | exact (Kd.R_reads' HO147.out).2.2 | (with_reducible refine Kd.C_alloc ?_ _) | (with_reducible refine Kd.C_drewN ?_ _) | (with_reducible refine Kd.C_drew ?_))); (case side2 => exact (Kd.R_reads' HO147.out).2.1); (case side3 => repeat (first | exact (Kd.R_reads' HO_5.out).2.2 | (with_reducible refine Kd.C_alloc ?_ _) | (with_reducible refine Kd.C_drewN ?_ _) | (with_reducible refine Kd.C_drew ?_))); (case side4 => exact (Kd.R_reads' HO_5.out).2.1); rintro e w' ⟨rfl, ⟨nd, rfl⟩⟩))
                              go_meet
                              case rel => exact ⟨_, ((t143 != t107)), (by first | rfl | (simp; done) | (simp [*]; done)), H', ⟨by have := HJ7.out; have := HJ33.out; first | omega | exact Nat.le_refl _⟩, ⟨by (with_reducible repeat (first | apply Kd.R_alloc | apply Kd.R_drewN | apply Kd.R_drew)); exact Kd.R_mono HO_8.out (fun _ hk => trivial)⟩, ⟨by (with_reducible repeat (first | apply Kd.R_alloc | apply Kd.R_drewN | apply Kd.R_drew)); exact Kd.R_mono HO_9.out (fun _ hk => trivial)⟩, ⟨by repeat (first | (with_reducible first | exact HB.out | apply below_alloc | apply pw_below_drewN | apply below_drew1) | exact HB.out)⟩⟩
                            · replace c85 := Bool.eq_false_iff.mpr c85
                              subst c85
                              have H1 : (laws_FnExactCountLines.j2 kj33 t133 t135 t134 true) = some r := by rw [if_neg (show ¬ (false = true) by decide)] at H; exact H
                              clear H
                              have H := H1
                              clear H1
                              have H' := Aside0.mk H
                              clear H
                              obtain ⟨Ao90, co90, eo90⟩ := Kd.R_slice HO145.out
                              subst eo90
                              obtain ⟨Ao91, co91, eo91⟩ := Kd.R_slice HO_4.out
                              subst eo91
                              go_wp2_with (first | ((with_reducible refine gate_callee (f := 19) rfl ?_); refine goesL_ (some 107) rfl rfl Try.func19 (by kernel_rfl) rfl #[.slice Ao90 t141.length co90, .slice Ao91 t105.length co91] rfl (by (try simp only [List.map_toArray, List.map_cons, List.map_nil]); first | done | rfl | (simp only [List.length_drop, List.length_take]; rfl)) ?_; (with_reducible refine (laws_eqStringS.calls kj33 _ _ t141 _ _ t105 true _ ?side1 ?side2 ?side3 ?side4 A82.out).mono ?_); (case side1 => repeat (first | exact (Kd.R_reads' HO145.out).2.2 | (with_reducible refine Kd.C_alloc ?_ _) | (with_reducible refine Kd.C_drewN ?_ _) | (with_reducible refine Kd.C_drew ?_))); (case side2 => exact (Kd.R_reads' HO145.out).2.1); (case side3 => repeat (first | exact (Kd.R_reads' HO_4.out).2.2 | (with_reducible refine Kd.C_alloc ?_ _) | (with_reducible refine Kd.C_drewN ?_ _) | (with_reducible refine Kd.C_drew ?_))); (case side4 => exact (Kd.R_reads' HO_4.out).2.1); rintro e w' ⟨rfl, ⟨nd, rfl⟩⟩; refine ⟨_, rfl, ?_⟩; obtain ⟨Ao92, co92, eo92⟩ := Kd.R_slice HO147.out; subst eo92; obtain ⟨Ao93, co93, eo93⟩ := Kd.R_slice HO_5.out; subst eo93) | (go_at_call 18; (with_reducible refine (laws_eqInt64S.calls kj33 _ _ t142 _ _ t106 false _ ?side1 ?side2 ?side3 ?side4 A84.out).mono ?_); (case side1 => repeat (first | exact (Kd.R_reads' HO147.out).2.2 | (with_reducible refine Kd.C_alloc ?_ _) | (with_reducible refine Kd.C_drewN ?_ _) | (with_reducible refine Kd.C_drew ?_))); (case side2 => exact (Kd.R_reads' HO147.out).2.1); (case side3 => repeat (first | exact (Kd.R_reads' HO_5.out).2.2 | (with_reducible refine Kd.C_alloc ?_ _) | (with_reducible refine Kd.C_drewN ?_ _) | (with_reducible refine Kd.C_drew ?_))); (case side4 => exact (Kd.R_reads' HO_5.out).2.1); rintro e w' ⟨rfl, ⟨nd, rfl⟩⟩))
                              go_meet
                              case rel => exact ⟨_, (true), (by first | rfl | (simp; done) | (simp [*]; done)), H', ⟨by have := HJ7.out; have := HJ33.out; first | omega | exact Nat.le_refl _⟩, ⟨by (with_reducible repeat (first | apply Kd.R_alloc | apply Kd.R_drewN | apply Kd.R_drew)); exact Kd.R_mono HO_8.out (fun _ hk => trivial)⟩, ⟨by (with_reducible repeat (first | apply Kd.R_alloc | apply Kd.R_drewN | apply Kd.R_drew)); exact Kd.R_mono HO_9.out (fun _ hk => trivial)⟩, ⟨by repeat (first | (with_reducible first | exact HB.out | apply below_alloc | apply pw_below_drewN | apply below_drew1) | exact HB.out)⟩⟩
                          · replace c83 := Bool.eq_false_iff.mpr c83
                            subst c83
                            have H1 : (laws_FnExactCountLines.j2 kj33 t133 t135 t134 true) = some r := by rw [if_neg (show ¬ (false = true) by decide)] at H; exact H
                            clear H
                            have H := H1
                            clear H1
                            have H' := Aside0.mk H
                            clear H
                            obtain ⟨Ao94, co94, eo94⟩ := Kd.R_slice HO145.out
                            subst eo94
                            obtain ⟨Ao95, co95, eo95⟩ := Kd.R_slice HO_4.out
                            subst eo95
                            go_wp2_with (first | ((with_reducible refine gate_callee (f := 19) rfl ?_); refine goesL_ (some 107) rfl rfl Try.func19 (by kernel_rfl) rfl #[.slice Ao94 t141.length co94, .slice Ao95 t105.length co95] rfl (by (try simp only [List.map_toArray, List.map_cons, List.map_nil]); first | done | rfl | (simp only [List.length_drop, List.length_take]; rfl)) ?_; (with_reducible refine (laws_eqStringS.calls kj33 _ _ t141 _ _ t105 false _ ?side1 ?side2 ?side3 ?side4 A82.out).mono ?_); (case side1 => repeat (first | exact (Kd.R_reads' HO145.out).2.2 | (with_reducible refine Kd.C_alloc ?_ _) | (with_reducible refine Kd.C_drewN ?_ _) | (with_reducible refine Kd.C_drew ?_))); (case side2 => exact (Kd.R_reads' HO145.out).2.1); (case side3 => repeat (first | exact (Kd.R_reads' HO_4.out).2.2 | (with_reducible refine Kd.C_alloc ?_ _) | (with_reducible refine Kd.C_drewN ?_ _) | (with_reducible refine Kd.C_drew ?_))); (case side4 => exact (Kd.R_reads' HO_4.out).2.1); rintro e w' ⟨rfl, ⟨nd, rfl⟩⟩; refine ⟨_, rfl, ?_⟩))
                            go_meet
                            case rel => exact ⟨_, (true), (by first | rfl | (simp; done) | (simp [*]; done)), H', ⟨by have := HJ7.out; have := HJ33.out; first | omega | exact Nat.le_refl _⟩, ⟨by (with_reducible repeat (first | apply Kd.R_alloc | apply Kd.R_drewN | apply Kd.R_drew)); exact Kd.R_mono HO_8.out (fun _ hk => trivial)⟩, ⟨by (with_reducible repeat (first | apply Kd.R_alloc | apply Kd.R_drewN | apply Kd.R_drew)); exact Kd.R_mono HO_9.out (fun _ hk => trivial)⟩, ⟨by repeat (first | (with_reducible first | exact HB.out | apply below_alloc | apply pw_below_drewN | apply below_drew1) | exact HB.out)⟩⟩
                        case rest =>
                          clear HC73
                          try clear c1
                          try clear c2
                          try clear p2
                          try clear c3
                          try clear c3b0
                          try clear c4
                          try clear c5
                          try clear c6
                          try clear c7
                          try clear c8
                          try clear c13
                          try clear c14
                          try clear c16
                          try clear c18
                          try clear c19
                          try clear c20
                          try clear c21
                          try clear c22
                          try clear c29
                          try clear c32
                          try clear c33
                          try clear c38
                          try clear c38b0
                          try clear c40
                          try clear c42
                          try clear c53
                          try clear c55
                          try clear c56
                          try clear c57
                          try clear c57b0
                          try clear c64
                          try clear c64b0
                          try clear c70
                          try clear c70b0
                          try clear c70b1
                          try clear c83
                          try clear c85
                          try clear p2
                          obtain ⟨kq, x119_72, rfl, HA, HJ72, HO_8, HO_9, HB⟩ := hcut
                          have hl8_72 := (Kd.R_reads' HO_8.out).1
                          rw [hl8_72] at HO_8
                          (try simp only [hl8_72])
                          (try simp only [hl8_72] at HO_9)
                          have hl9_72 := (Kd.R_reads' HO_9.out).1
                          rw [hl9_72] at HO_9
                          (try simp only [hl9_72])
                          (try simp only [hl9_72] at HO_8)
                          cases kq with
                          | zero => exact absurd HA.out (by simp [laws_FnExactCountLines.j2])
                          | succ kj72 =>
                            have H := HA.out
                            clear HA
                            simp only [laws_FnExactCountLines.j2] at H
                            by_cases c96 : x119_72 = true
                            · subst c96
                              have H1 : (some false) = some r := by rw [if_pos rfl] at H; exact H
                              clear H
                              have H := H1
                              clear H1
                              obtain rfl := Option.some.inj H
                              go_wp2
                              go_ret
                              exact ⟨by first | rfl | (simp [errW_none, errW_some] <;> rfl) | (simp [*, errW_none, errW_some] <;> rfl), by repeat (first | (with_reducible first | exact HB.out | apply below_alloc | apply pw_below_drewN | apply below_drew1) | exact HB.out)⟩
                            · replace c96 := Bool.eq_false_iff.mpr c96
                              subst c96
                              have H1 : ((laws_heldStringS.f kj72 t133 1).bind fun t150 => (if t150 < 0 then (some false) else ((laws_heldInt64S.f kj72 t135 t150).bind fun t151 => (if t151 < 0 then (some false) else (if t151 = t134 then (some true) else (some false)))))) = some r := by rw [if_neg (show ¬ (false = true) by decide)] at H; exact H
                              clear H
                              have H := H1
                              clear H1
                              replace H := Option.bind_eq_some_iff.mp H
                              obtain ⟨t150, A970, H⟩ := H
                              replace H : (if t150 < 0 then (some false) else ((laws_heldInt64S.f kj72 t135 t150).bind fun t151 => (if t151 < 0 then (some false) else (if t151 = t134 then (some true) else (some false))))) = some r := H
                              have A97 := Aside0.mk A970
                              clear A970
                              by_cases c98 : t150 < 0
                              · rw [if_pos c98] at H
                                have c98b0 : decide (t150 < 0) = true := decide_eq_true c98
                                clear c98
                                obtain rfl := Option.some.inj H
                                go_wp2_with (first | ((with_reducible refine gate_callee (f := 33) rfl ?_); refine goesL_ (some 122) rfl rfl Try.func33 (by kernel_rfl) rfl #[.slice Ao74 t133.length co74, .int .i64 1] rfl (by (try simp only [List.map_toArray, List.map_cons, List.map_nil]); first | done | rfl | (simp only [List.length_drop, List.length_take]; rfl)) ?_; (with_reducible refine (laws_heldStringS.calls kj72 _ _ t133 1 t150 _ ?side1 ?side2 A97.out).mono ?_); (case side1 => repeat (first | exact (Kd.R_reads' HO_8.out).2.2 | (with_reducible refine Kd.C_alloc ?_ _) | (with_reducible refine Kd.C_drewN ?_ _) | (with_reducible refine Kd.C_drew ?_))); (case side2 => exact (Kd.R_reads' HO_8.out).2.1); rintro e w99 ⟨rfl, hb⟩; refine ⟨_, rfl, ?_⟩; have n0_ := Aside0.mk (Kd.R_below (by (with_reducible repeat (first | apply Kd.R_alloc | apply Kd.R_drewN | apply Kd.R_drew)); exact HO_8.out) hb); have n1_ := Aside0.mk (Kd.R_below (by (with_reducible repeat (first | apply Kd.R_alloc | apply Kd.R_drewN | apply Kd.R_drew)); exact HO_9.out) hb); have n2_ := Aside0.mk (below_step (by repeat (first | (with_reducible first | exact HB.out | apply below_alloc | apply pw_below_drewN | apply below_drew1) | exact HB.out)) hb); clear HO_8; clear HO_9; clear HB; have HO_8 := n0_; have HO_9 := n1_; have HB := n2_; clear n0_ n1_ n2_; (try clear hb); (try clear hb2); (try clear hk); (try clear hi)))
                                go_ret
                                exact ⟨by first | rfl | (simp [errW_none, errW_some] <;> rfl) | (simp [*, errW_none, errW_some] <;> rfl), by repeat (first | (with_reducible first | exact HB.out | apply below_alloc | apply pw_below_drewN | apply below_drew1) | exact HB.out)⟩
                              · rw [if_neg c98] at H
                                have c98b0 : decide (t150 < 0) = false := decide_eq_false c98
                                clear c98
                                replace H := Option.bind_eq_some_iff.mp H
                                obtain ⟨t151, A1000, H⟩ := H
                                replace H : (if t151 < 0 then (some false) else (if t151 = t134 then (some true) else (some false))) = some r := H
                                have A100 := Aside0.mk A1000
                                clear A1000
                                by_cases c101 : t151 < 0
                                · rw [if_pos c101] at H
                                  have c101b0 : decide (t151 < 0) = true := decide_eq_true c101
                                  clear c101
                                  obtain rfl := Option.some.inj H
                                  go_wp2_with (first | ((with_reducible refine gate_callee (f := 33) rfl ?_); refine goesL_ (some 122) rfl rfl Try.func33 (by kernel_rfl) rfl #[.slice Ao74 t133.length co74, .int .i64 1] rfl (by (try simp only [List.map_toArray, List.map_cons, List.map_nil]); first | done | rfl | (simp only [List.length_drop, List.length_take]; rfl)) ?_; (with_reducible refine (laws_heldStringS.calls kj72 _ _ t133 1 t150 _ ?side1 ?side2 A97.out).mono ?_); (case side1 => repeat (first | exact (Kd.R_reads' HO_8.out).2.2 | (with_reducible refine Kd.C_alloc ?_ _) | (with_reducible refine Kd.C_drewN ?_ _) | (with_reducible refine Kd.C_drew ?_))); (case side2 => exact (Kd.R_reads' HO_8.out).2.1); rintro e w102 ⟨rfl, hb⟩; refine ⟨_, rfl, ?_⟩; have n0_ := Aside0.mk (Kd.R_below (by (with_reducible repeat (first | apply Kd.R_alloc | apply Kd.R_drewN | apply Kd.R_drew)); exact HO_8.out) hb); have n1_ := Aside0.mk (Kd.R_below (by (with_reducible repeat (first | apply Kd.R_alloc | apply Kd.R_drewN | apply Kd.R_drew)); exact HO_9.out) hb); have n2_ := Aside0.mk (below_step (by repeat (first | (with_reducible first | exact HB.out | apply below_alloc | apply pw_below_drewN | apply below_drew1) | exact HB.out)) hb); clear HO_8; clear HO_9; clear HB; have HO_8 := n0_; have HO_9 := n1_; have HB := n2_; clear n0_ n1_ n2_; (try clear hb); (try clear hb2); (try clear hk); (try clear hi)) | ((with_reducible refine gate_callee (f := 22) rfl ?_); refine goesL_ (some 127) rfl rfl Try.func22 (by kernel_rfl) rfl #[.slice Ao76 t135.length co76, .int .i64 t150] rfl (by (try simp only [List.map_toArray, List.map_cons, List.map_nil]); first | done | rfl | (simp only [List.length_drop, List.length_take]; rfl)) ?_; (with_reducible refine (laws_heldInt64S.calls kj72 _ _ t135 t150 t151 _ ?side1 ?side2 A100.out).mono ?_); (case side1 => repeat (first | exact (Kd.R_reads' HO_9.out).2.2 | (with_reducible refine Kd.C_alloc ?_ _) | (with_reducible refine Kd.C_drewN ?_ _) | (with_reducible refine Kd.C_drew ?_))); (case side2 => exact (Kd.R_reads' HO_9.out).2.1); rintro e w' ⟨rfl, ⟨nd, rfl⟩⟩; refine ⟨_, rfl, ?_⟩))
                                  go_ret
                                  exact ⟨by first | rfl | (simp [errW_none, errW_some] <;> rfl) | (simp [*, errW_none, errW_some] <;> rfl), by repeat (first | (with_reducible first | exact HB.out | apply below_alloc | apply pw_below_drewN | apply below_drew1) | exact HB.out)⟩
                                · rw [if_neg c101] at H
                                  have c101b0 : decide (t151 < 0) = false := decide_eq_false c101
                                  clear c101
                                  by_cases c103 : t151 = t134
                                  · rw [if_pos c103] at H
                                    have c103b0 : (t151 == t134) = true := beq_iff_eq.mpr c103
                                    have c103b1 : (t151 != t134) = false := bne_eq_false_iff_eq.mpr c103
                                    clear c103
                                    obtain rfl := Option.some.inj H
                                    go_wp2_with (first | ((with_reducible refine gate_callee (f := 33) rfl ?_); refine goesL_ (some 122) rfl rfl Try.func33 (by kernel_rfl) rfl #[.slice Ao74 t133.length co74, .int .i64 1] rfl (by (try simp only [List.map_toArray, List.map_cons, List.map_nil]); first | done | rfl | (simp only [List.length_drop, List.length_take]; rfl)) ?_; (with_reducible refine (laws_heldStringS.calls kj72 _ _ t133 1 t150 _ ?side1 ?side2 A97.out).mono ?_); (case side1 => repeat (first | exact (Kd.R_reads' HO_8.out).2.2 | (with_reducible refine Kd.C_alloc ?_ _) | (with_reducible refine Kd.C_drewN ?_ _) | (with_reducible refine Kd.C_drew ?_))); (case side2 => exact (Kd.R_reads' HO_8.out).2.1); rintro e w104 ⟨rfl, hb⟩; refine ⟨_, rfl, ?_⟩; have n0_ := Aside0.mk (Kd.R_below (by (with_reducible repeat (first | apply Kd.R_alloc | apply Kd.R_drewN | apply Kd.R_drew)); exact HO_8.out) hb); have n1_ := Aside0.mk (Kd.R_below (by (with_reducible repeat (first | apply Kd.R_alloc | apply Kd.R_drewN | apply Kd.R_drew)); exact HO_9.out) hb); have n2_ := Aside0.mk (below_step (by repeat (first | (with_reducible first | exact HB.out | apply below_alloc | apply pw_below_drewN | apply below_drew1) | exact HB.out)) hb); clear HO_8; clear HO_9; clear HB; have HO_8 := n0_; have HO_9 := n1_; have HB := n2_; clear n0_ n1_ n2_; (try clear hb); (try clear hb2); (try clear hk); (try clear hi)) | ((with_reducible refine gate_callee (f := 22) rfl ?_); refine goesL_ (some 127) rfl rfl Try.func22 (by kernel_rfl) rfl #[.slice Ao76 t135.length co76, .int .i64 t150] rfl (by (try simp only [List.map_toArray, List.map_cons, List.map_nil]); first | done | rfl | (simp only [List.length_drop, List.length_take]; rfl)) ?_; (with_reducible refine (laws_heldInt64S.calls kj72 _ _ t135 t150 t151 _ ?side1 ?side2 A100.out).mono ?_); (case side1 => repeat (first | exact (Kd.R_reads' HO_9.out).2.2 | (with_reducible refine Kd.C_alloc ?_ _) | (with_reducible refine Kd.C_drewN ?_ _) | (with_reducible refine Kd.C_drew ?_))); (case side2 => exact (Kd.R_reads' HO_9.out).2.1); rintro e w' ⟨rfl, ⟨nd, rfl⟩⟩; refine ⟨_, rfl, ?_⟩))
                                    go_ret
                                    exact ⟨by first | rfl | (simp [errW_none, errW_some] <;> rfl) | (simp [*, errW_none, errW_some] <;> rfl), by repeat (first | (with_reducible first | exact HB.out | apply below_alloc | apply pw_below_drewN | apply below_drew1) | exact HB.out)⟩
                                  · rw [if_neg c103] at H
                                    have c103b0 : (t151 == t134) = false := beq_eq_false_iff_ne.mpr c103
                                    have c103b1 : (t151 != t134) = true := bne_iff_ne.mpr c103
                                    obtain rfl := Option.some.inj H
                                    go_wp2_with (first | ((with_reducible refine gate_callee (f := 33) rfl ?_); refine goesL_ (some 122) rfl rfl Try.func33 (by kernel_rfl) rfl #[.slice Ao74 t133.length co74, .int .i64 1] rfl (by (try simp only [List.map_toArray, List.map_cons, List.map_nil]); first | done | rfl | (simp only [List.length_drop, List.length_take]; rfl)) ?_; (with_reducible refine (laws_heldStringS.calls kj72 _ _ t133 1 t150 _ ?side1 ?side2 A97.out).mono ?_); (case side1 => repeat (first | exact (Kd.R_reads' HO_8.out).2.2 | (with_reducible refine Kd.C_alloc ?_ _) | (with_reducible refine Kd.C_drewN ?_ _) | (with_reducible refine Kd.C_drew ?_))); (case side2 => exact (Kd.R_reads' HO_8.out).2.1); rintro e w105 ⟨rfl, hb⟩; refine ⟨_, rfl, ?_⟩; have n0_ := Aside0.mk (Kd.R_below (by (with_reducible repeat (first | apply Kd.R_alloc | apply Kd.R_drewN | apply Kd.R_drew)); exact HO_8.out) hb); have n1_ := Aside0.mk (Kd.R_below (by (with_reducible repeat (first | apply Kd.R_alloc | apply Kd.R_drewN | apply Kd.R_drew)); exact HO_9.out) hb); have n2_ := Aside0.mk (below_step (by repeat (first | (with_reducible first | exact HB.out | apply below_alloc | apply pw_below_drewN | apply below_drew1) | exact HB.out)) hb); clear HO_8; clear HO_9; clear HB; have HO_8 := n0_; have HO_9 := n1_; have HB := n2_; clear n0_ n1_ n2_; (try clear hb); (try clear hb2); (try clear hk); (try clear hi)) | ((with_reducible refine gate_callee (f := 22) rfl ?_); refine goesL_ (some 127) rfl rfl Try.func22 (by kernel_rfl) rfl #[.slice Ao76 t135.length co76, .int .i64 t150] rfl (by (try simp only [List.map_toArray, List.map_cons, List.map_nil]); first | done | rfl | (simp only [List.length_drop, List.length_take]; rfl)) ?_; (with_reducible refine (laws_heldInt64S.calls kj72 _ _ t135 t150 t151 _ ?side1 ?side2 A100.out).mono ?_); (case side1 => repeat (first | exact (Kd.R_reads' HO_9.out).2.2 | (with_reducible refine Kd.C_alloc ?_ _) | (with_reducible refine Kd.C_drewN ?_ _) | (with_reducible refine Kd.C_drew ?_))); (case side2 => exact (Kd.R_reads' HO_9.out).2.1); rintro e w' ⟨rfl, ⟨nd, rfl⟩⟩; refine ⟨_, rfl, ?_⟩))
                                    go_ret
                                    exact ⟨by first | rfl | (simp [errW_none, errW_some] <;> rfl) | (simp [*, errW_none, errW_some] <;> rfl), by repeat (first | (with_reducible first | exact HB.out | apply below_alloc | apply pw_below_drewN | apply below_drew1) | exact HB.out)⟩
                      · rw [if_neg c70] at H
                        have c70b0 : (t137 == t134) = false := beq_eq_false_iff_ne.mpr c70
                        have c70b1 : (t137 != t134) = true := bne_iff_ne.mpr c70
                        obtain rfl := Option.some.inj H
                        obtain ⟨Ao106, co106, eo106⟩ := Kd.R_slice HO_8.out
                        subst eo106
                        go_wp2_with (first | ((with_reducible refine gate_callee (f := 20) rfl ?_); refine goesL_ (some 81) rfl rfl Try.func20 (by kernel_rfl) rfl #[.slice Ao106 t115.length co106, .int .i64 1] rfl (by (try simp only [List.map_toArray, List.map_cons, List.map_nil]); first | done | rfl | (simp only [List.length_drop, List.length_take]; rfl)) ?_; (with_reducible refine (laws_markStringS.calls kj33 (fun k_ => some k_ = (.slice Ao106 t115.length co106 : Value).ownBlock) (.slice Ao106 t115.length co106) t115 1 t132 t133 w _ ?side1 ?side2 A54.out).mono ?_); (case side1 => repeat (first | (with_reducible first | exact HB.out | apply below_alloc | apply pw_below_drewN | apply below_drew1) | exact HB.out)); (case side2 => exact Kd.R_tight rfl HO_8.out); rintro e w107 ⟨rfl, hy0, hb, hkp⟩; refine ⟨_, rfl, ?_⟩; have n0_ := Aside0.mk (Kd.R_mono (ok' := fun k_ => some k_ ≠ (.slice Ao106 t115.length co106 : Value).ownBlock) (Kd.R_keptB (HO_4.out) hkp (fun k_ hk_ hs_ => (hk_) hs_)) (fun k_ hk_ => hk_.1)); have n1_ := Aside0.mk (Kd.R_mono (ok' := fun k_ => some k_ ≠ (v120 : Value).ownBlock) (Kd.R_keptB ((Kd.R_apart' HO_5.out (Kd.R_typed HO_8.out) (by decide))) hkp (fun k_ hk_ hs_ => (hk_.2) hs_)) (fun k_ hk_ => hk_.1.1)); have n2_ := Aside0.mk (Kd.R_reok rfl hy0 (fun k_ e_ => HO_8.out.1 k_ e_)); have n3_ := Aside0.mk (Kd.R_mono (ok' := fun k_ => some k_ ≠ (v110 : Value).ownBlock) (Kd.R_keptB ((Kd.R_apart' HO_9.out (Kd.R_typed HO_8.out) (by decide))) hkp (fun k_ hk_ hs_ => (hk_.2) hs_)) (fun k_ hk_ => hk_.1.1)); have n4_ := Aside0.mk (hb); clear HO_4; clear HO_5; clear HO_8; clear HO_9; clear HB; have HO_4 := n0_; have HO_5 := n1_; have HO_8 := n2_; have HO_9 := n3_; have HB := n4_; clear n0_ n1_ n2_ n3_ n4_; (try clear hb); (try clear hkp); (try clear hy0); obtain ⟨Ao108, co108, eo108⟩ := Kd.R_slice HO_9.out; subst eo108) | ((with_reducible refine gate_callee (f := 21) rfl ?_); refine goesL_ (some 84) rfl rfl Try.func21 (by kernel_rfl) rfl #[.slice Ao108 t116.length co108, .int .i64 t132] rfl (by (try simp only [List.map_toArray, List.map_cons, List.map_nil]); first | done | rfl | (simp only [List.length_drop, List.length_take]; rfl)) ?_; (with_reducible refine (laws_markInt64S.calls kj33 (fun k_ => some k_ = (.slice Ao108 t116.length co108 : Value).ownBlock) (.slice Ao108 t116.length co108) t116 t132 t134 t135 w _ ?side1 ?side2 A55.out).mono ?_); (case side1 => repeat (first | (with_reducible first | exact HB.out | apply below_alloc | apply pw_below_drewN | apply below_drew1) | exact HB.out)); (case side2 => exact Kd.R_tight rfl HO_9.out); rintro e w109 ⟨rfl, hy0, hb, hkp⟩; refine ⟨_, rfl, ?_⟩; have n0_ := Aside0.mk (Kd.R_mono (ok' := fun k_ => some k_ ≠ (.slice Ao106 t115.length co106 : Value).ownBlock) (Kd.R_keptB ((Kd.R_apart' HO_4.out (Kd.R_typed HO_9.out) (by decide))) hkp (fun k_ hk_ hs_ => (hk_.2) hs_)) (fun k_ hk_ => hk_.1.1)); have n1_ := Aside0.mk (Kd.R_mono (ok' := fun k_ => some k_ ≠ (.slice Ao108 t116.length co108 : Value).ownBlock) (Kd.R_keptB (HO_5.out) hkp (fun k_ hk_ hs_ => (hk_) hs_)) (fun k_ hk_ => hk_.1)); have n2_ := Aside0.mk (Kd.R_mono (ok' := fun k_ => some k_ ≠ (v108 : Value).ownBlock) (Kd.R_keptB ((Kd.R_apart' HO_8.out (Kd.R_typed HO_9.out) (by decide))) hkp (fun k_ hk_ hs_ => (hk_.2) hs_)) (fun k_ hk_ => hk_.1.1)); have n3_ := Aside0.mk (Kd.R_reok rfl hy0 (fun k_ e_ => HO_9.out.1 k_ e_)); have n4_ := Aside0.mk (hb); clear HO_4; clear HO_5; clear HO_8; clear HO_9; clear HB; have HO_4 := n0_; have HO_5 := n1_; have HO_8 := n2_; have HO_9 := n3_; have HB := n4_; clear n0_ n1_ n2_ n3_ n4_; (try clear hb); (try clear hkp); (try clear hy0)) | ((with_reducible refine gate_callee (f := 33) rfl ?_); refine goesL_ (some 87) rfl rfl Try.func33 (by kernel_rfl) rfl #[.slice Ao106 t133.length co106, .int .i64 1] rfl (by (try simp only [List.map_toArray, List.map_cons, List.map_nil]); first | done | (rw [show t133.length = t115.length from (Kd.R_reads' HO_8.out).1.symm] <;> rfl) | rfl | (simp only [List.length_drop, List.length_take]; rfl)) ?_; (with_reducible refine (laws_heldStringS.calls kj33 _ _ t133 1 t136 _ ?side1 ?side2 A56.out).mono ?_); (case side1 => repeat (first | exact (Kd.R_reads' HO_8.out).2.2 | (with_reducible refine Kd.C_alloc ?_ _) | (with_reducible refine Kd.C_drewN ?_ _) | (with_reducible refine Kd.C_drew ?_))); (case side2 => rw [show t133.length = t115.length from (Kd.R_reads' HO_8.out).1.symm]; exact (Kd.R_reads' HO_8.out).2.1); rintro e w110 ⟨rfl, hb⟩; refine ⟨_, rfl, ?_⟩; have n0_ := Aside0.mk (Kd.R_below (by (with_reducible repeat (first | apply Kd.R_alloc | apply Kd.R_drewN | apply Kd.R_drew)); exact HO_4.out) hb); have n1_ := Aside0.mk (Kd.R_below (by (with_reducible repeat (first | apply Kd.R_alloc | apply Kd.R_drewN | apply Kd.R_drew)); exact HO_5.out) hb); have n2_ := Aside0.mk (Kd.R_below (by (with_reducible repeat (first | apply Kd.R_alloc | apply Kd.R_drewN | apply Kd.R_drew)); exact HO_8.out) hb); have n3_ := Aside0.mk (Kd.R_below (by (with_reducible repeat (first | apply Kd.R_alloc | apply Kd.R_drewN | apply Kd.R_drew)); exact HO_9.out) hb); have n4_ := Aside0.mk (below_step (by repeat (first | (with_reducible first | exact HB.out | apply below_alloc | apply pw_below_drewN | apply below_drew1) | exact HB.out)) hb); clear HO_4; clear HO_5; clear HO_8; clear HO_9; clear HB; have HO_4 := n0_; have HO_5 := n1_; have HO_8 := n2_; have HO_9 := n3_; have HB := n4_; clear n0_ n1_ n2_ n3_ n4_; (try clear hb); (try clear hb2); (try clear hk); (try clear hi)) | ((with_reducible refine gate_callee (f := 22) rfl ?_); refine goesL_ (some 92) rfl rfl Try.func22 (by kernel_rfl) rfl #[.slice Ao108 t135.length co108, .int .i64 t136] rfl (by (try simp only [List.map_toArray, List.map_cons, List.map_nil]); first | done | (rw [show t135.length = t116.length from (Kd.R_reads' HO_9.out).1.symm] <;> rfl) | rfl | (simp only [List.length_drop, List.length_take]; rfl)) ?_; (with_reducible refine (laws_heldInt64S.calls kj33 _ _ t135 t136 t137 _ ?side1 ?side2 A63.out).mono ?_); (case side1 => repeat (first | exact (Kd.R_reads' HO_9.out).2.2 | (with_reducible refine Kd.C_alloc ?_ _) | (with_reducible refine Kd.C_drewN ?_ _) | (with_reducible refine Kd.C_drew ?_))); (case side2 => rw [show t135.length = t116.length from (Kd.R_reads' HO_9.out).1.symm]; exact (Kd.R_reads' HO_9.out).2.1); rintro e w' ⟨rfl, ⟨nd, rfl⟩⟩; refine ⟨_, rfl, ?_⟩))
                        go_ret
                        exact ⟨by first | rfl | (simp [errW_none, errW_some] <;> rfl) | (simp [*, errW_none, errW_some] <;> rfl), by repeat (first | (with_reducible first | exact HB.out | apply below_alloc | apply pw_below_drewN | apply below_drew1) | exact HB.out)⟩
          · replace c32 := Bool.eq_false_iff.mpr c32
            subst c32
            have H1 : (some false) = some r := by rw [if_neg (show ¬ (false = true) by decide)] at H; exact H
            clear H
            have H := H1
            clear H1
            obtain rfl := Option.some.inj H
            go_wp2_with (first | ((with_reducible refine gate_callee (f := 16) rfl ?_); refine goesL_ (some 54) rfl rfl Try.func16 (by kernel_rfl) rfl #[.slice A0 l0.length c0] rfl (by (try simp only [List.map_toArray, List.map_cons, List.map_nil]); first | done | rfl | (simp only [List.length_drop, List.length_take]; rfl)) ?_; (with_reducible refine (laws_toStringS.calls kj7 _ _ l0 t124 _ ?side1 ?side2 A30.out).mono ?_); (case side1 => repeat (first | exact (Kd.C_below HR0.out HB.out) | (with_reducible refine Kd.C_alloc ?_ _) | (with_reducible refine Kd.C_drewN ?_ _) | (with_reducible refine Kd.C_drew ?_))); (case side2 => exact HC0.out); rintro e w111 ⟨v125, rfl, ho0, hb⟩; refine ⟨_, rfl, ?_⟩; have n0_ := Aside0.mk (Kd.R_elder' (by (with_reducible repeat (first | apply Kd.R_alloc | apply Kd.R_drewN | apply Kd.R_drew)); exact HO_4.out) (Kd.R_base ho0) hb); have n1_ := Aside0.mk (Kd.R_below (by (with_reducible repeat (first | apply Kd.R_alloc | apply Kd.R_drewN | apply Kd.R_drew)); exact HO_5.out) hb); have n2_ := Aside0.mk (Kd.R_elder' (by (with_reducible repeat (first | apply Kd.R_alloc | apply Kd.R_drewN | apply Kd.R_drew)); exact HO_7.out) (Kd.R_base ho0) hb); have n3_ := Aside0.mk (Kd.R_elder' (by (with_reducible repeat (first | apply Kd.R_alloc | apply Kd.R_drewN | apply Kd.R_drew)); exact HO_8.out) (Kd.R_base ho0) hb); have n4_ := Aside0.mk (Kd.R_below (by (with_reducible repeat (first | apply Kd.R_alloc | apply Kd.R_drewN | apply Kd.R_drew)); exact HO_9.out) hb); have n5_ := Aside0.mk (Kd.R_lower (Kd.R_new' (Kd.R_new' (Kd.R_new' ho0 (Kd.R_lt (by (with_reducible repeat (first | apply Kd.R_alloc | apply Kd.R_drewN | apply Kd.R_drew)); exact HO_4.out))) (Kd.R_lt (by (with_reducible repeat (first | apply Kd.R_alloc | apply Kd.R_drewN | apply Kd.R_drew)); exact HO_7.out))) (Kd.R_lt (by (with_reducible repeat (first | apply Kd.R_alloc | apply Kd.R_drewN | apply Kd.R_drew)); exact HO_8.out))) (below_size (by repeat (first | (with_reducible first | exact HB.out | apply below_alloc | apply pw_below_drewN | apply below_drew1) | exact HB.out)))); have n6_ := Aside0.mk (below_step (by repeat (first | (with_reducible first | exact HB.out | apply below_alloc | apply pw_below_drewN | apply below_drew1) | exact HB.out)) hb); clear HO_4; clear HO_5; clear HO_7; clear HO_8; clear HO_9; clear HB; have HO_4 := n0_; have HO_5 := n1_; have HO_7 := n2_; have HO_8 := n3_; have HO_9 := n4_; have HO126 := n5_; have HB := n6_; clear n0_ n1_ n2_ n3_ n4_ n5_ n6_; (try clear hb); (try clear hb2); (try clear hk); (try clear hi); (try clear ho0); obtain ⟨Ao112, co112, eo112⟩ := Kd.R_slice HO126.out; subst eo112) | ((with_reducible refine gate_callee (f := 19) rfl ?_); refine goesL_ (some 55) rfl rfl Try.func19 (by kernel_rfl) rfl #[.slice Ao13 t112.length co13, .slice Ao112 t124.length co112] rfl (by (try simp only [List.map_toArray, List.map_cons, List.map_nil]); first | done | rfl | (simp only [List.length_drop, List.length_take]; rfl)) ?_; (with_reducible refine (laws_eqStringS.calls kj7 _ _ t112 _ _ t124 false _ ?side1 ?side2 ?side3 ?side4 A31.out).mono ?_); (case side1 => repeat (first | exact (Kd.R_reads' HO_7.out).2.2 | (with_reducible refine Kd.C_alloc ?_ _) | (with_reducible refine Kd.C_drewN ?_ _) | (with_reducible refine Kd.C_drew ?_))); (case side2 => exact (Kd.R_reads' HO_7.out).2.1); (case side3 => repeat (first | exact (Kd.R_reads' HO126.out).2.2 | (with_reducible refine Kd.C_alloc ?_ _) | (with_reducible refine Kd.C_drewN ?_ _) | (with_reducible refine Kd.C_drew ?_))); (case side4 => exact (Kd.R_reads' HO126.out).2.1); rintro e w' ⟨rfl, ⟨nd, rfl⟩⟩; refine ⟨_, rfl, ?_⟩))
            go_ret
            exact ⟨by first | rfl | (simp [errW_none, errW_some] <;> rfl) | (simp [*, errW_none, errW_some] <;> rfl), by repeat (first | (with_reducible first | exact HB.out | apply below_alloc | apply pw_below_drewN | apply below_drew1) | exact HB.out)⟩
end Go.Proofs.Ytpdggpfobbkdnaa.A
end
section
namespace Go.Proofs.Ytpdggpfobbkdnaa.A
open Go.RowKit Go.Proofs.YtpdggpfobbkdnaaW.PrintWords Go.Proofs.YtpdggpfobbkdnaaW.PrintLast Go.Proofs.Ytpdggpfobbkdnaa.A
def laws_FnExactCountLines.Pure : Prop := ∀ (l0 : List ByteArray), (l0.length ≤ maxLen ∧ ∀ z ∈ l0, z.size ≤ maxLen) → ∃ k, laws_FnExactCountLines.f k l0 = some true
end Go.Proofs.Ytpdggpfobbkdnaa.A
end
section
namespace Go.Proofs.Ytpdggpfobbkdnaa.A
open Go.RowKit Go.Proofs.YtpdggpfobbkdnaaW.PrintWords Go.Proofs.YtpdggpfobbkdnaaW.PrintLast
theorem Ev.pos {α : Type} {c : Prop} [Decidable c] {f g : Nat → Option α} {r : α} (h : c) (k : Ev f r) : Ev (fun n => if c then f n else g n) r := by
  simpa only [if_pos h] using k
theorem Ev.neg {α : Type} {c : Prop} [Decidable c] {f g : Nat → Option α} {r : α} (h : ¬ c) (k : Ev g r) : Ev (fun n => if c then f n else g n) r := by
  simpa only [if_neg h] using k
theorem Ev.succ {α : Type} {g : Nat → Option α} {r : α} (k : Ev (fun n => g (n + 1)) r) : Ev g r := Ev.step (fun _ => rfl) k
theorem Ev.to {α : Type} {g : Nat → Option α} {r s : α} (h : Ev g r) (e : r = s) : Ev g s := e ▸ h
theorem Ev.const {α : Type} {o : Option α} {r : α} (h : o = some r) : Ev (fun _ => o) r := ⟨0, fun _ _ => h⟩
theorem w64 {x : Int} (h1 : -9223372036854775808 ≤ x) (h2 : x ≤ 9223372036854775807) : wrap64 x = x := by
  unfold wrap64
  omega
theorem w64_succ {i n : Nat} (h : i < n) (hn : n ≤ 9223372036854775807) : wrap64 ((i : Int) + 1) = ((i + 1 : Nat) : Int) := by
  rw [w64 (by omega) (by omega)]
  omega
theorem rdOf_at {α : Type} (d : α) (xs : List α) (i : Nat) (h : i < xs.length) : rdOf d xs (i : Int) = xs[i] := by
  simp [rdOf, List.getD_eq_getElem?_getD, List.getElem?_eq_getElem h]
theorem rd_at (xs : List Int) (i : Nat) (h : i < xs.length) : rd xs (i : Int) = xs[i] := by
  simp [rd, List.getD_eq_getElem?_getD, List.getElem?_eq_getElem h]
theorem bt_at_nat (s : ByteArray) (i : Nat) (h : i < s.size) : bt s (i : Int) = (s[i].toNat : Int) := by
  simp [bt, h]
theorem toList_eq (s : ByteArray) : s.toList = s.data.toList := Go.ByteArray.toList_eq s
theorem bytes_ext {s t : ByteArray} (h : s.toList = t.toList) : s = t := by
  rw [toList_eq, toList_eq] at h
  obtain ⟨⟨a⟩⟩ := s
  obtain ⟨⟨b⟩⟩ := t
  simp at h
  rw [h]
theorem ba_size (s : ByteArray) : s.data.toList.length = s.size := Nat.add_zero _
end Go.Proofs.Ytpdggpfobbkdnaa.A
end
section
namespace Go.Proofs.Ytpdggpfobbkdnaa.A
open Go.RowKit Go.Proofs.YtpdggpfobbkdnaaW.PrintWords Go.Proofs.YtpdggpfobbkdnaaW.PrintLast
theorem szStringS_l0 (l : List ByteArray) (hl : l.length ≤ 9223372036854775807) (hs : ∀ z ∈ l, z.size ≤ 9223372036854775807) : ∀ (d i : Nat) (left : Int), i + d = l.length → 0 ≤ left → left ≤ 1048576 →
    ∃ t, Ev (fun k => laws_szStringS.l0 k l left i) t ∧ (0 ≤ t → ∀ j (h : j < l.length), i ≤ j → l[j].size ≤ 1048576) := by
  intro d
  induction d with
  | zero =>
    intro i left hi h0 h1
    refine ⟨left, Ev.succ ?_, fun _ j h hj => absurd h (by omega)⟩
    simp only [laws_szStringS.l0]
    exact Ev.neg (by omega) (Ev.now _)
  | succ d ih =>
    intro i left hi h0 h1
    have hlt : i < l.length := by omega
    have hz := hs l[i] (List.getElem_mem hlt)
    have hw : wrap64 (left - (l[i].size : Int)) = left - (l[i].size : Int) := w64 (by omega) (by omega)
    by_cases hn : left - (l[i].size : Int) < 0
    · refine ⟨-1, Ev.succ ?_, fun h => absurd h (by omega)⟩
      simp only [laws_szStringS.l0, rdOf_at _ l i hlt, hw]
      exact Ev.pos (by omega) (Ev.pos (by omega) (Ev.pos hn (Ev.now _)))
    · obtain ⟨t, ht, hall⟩ := ih (i + 1) (left - (l[i].size : Int)) (by omega) (by omega) (by omega)
      refine ⟨t, Ev.succ ?_, fun h j hj hij => ?_⟩
      · simp only [laws_szStringS.l0, rdOf_at _ l i hlt, hw, w64_succ hlt hl]
        exact Ev.pos (by omega) (Ev.pos (by omega) (Ev.neg hn ht))
      · by_cases e : i = j
        · subst e
          omega
        · exact hall h j hj (by omega)
theorem szStringS_ev (l : List ByteArray) (hl : l.length ≤ maxLen) (hs : ∀ z ∈ l, z.size ≤ maxLen) :
    ∃ t, Ev (fun k => laws_szStringS.f k l 1048576) t ∧ (0 ≤ t → l.length ≤ 1048576 ∧ ∀ z ∈ l, z.size ≤ 1048576) := by
  unfold maxLen at hl hs
  have hw : wrap64 (1048576 - (l.length : Int)) = 1048576 - (l.length : Int) := w64 (by omega) (by omega)
  by_cases hn : 1048576 - (l.length : Int) < 0
  · refine ⟨-1, ?_, fun h => absurd h (by omega)⟩
    simp only [laws_szStringS.f, hw]
    exact Ev.pos hn (Ev.now _)
  · obtain ⟨t, ht, hall⟩ := szStringS_l0 l hl hs l.length 0 (1048576 - (l.length : Int)) (by omega) (by omega) (by omega)
    refine ⟨t, ?_, fun h => ⟨by omega, fun z hz => ?_⟩⟩
    · simp only [laws_szStringS.f, hw]
      exact Ev.neg hn ht
    · obtain ⟨j, hj, rfl⟩ := List.getElem_of_mem hz
      exact hall h j hj (by omega)
theorem toStringS_l0 (l : List ByteArray) (hl : l.length ≤ 9223372036854775807) : ∀ (d i : Nat) (x : List ByteArray), i + d = l.length → x.length = l.length → (∀ j, j < i → x[j]? = l[j]?) → Ev (fun k => laws_toStringS.l0 k l x i) l := by
  intro d
  induction d with
  | zero =>
    intro i x hi hx hp
    refine Ev.succ ?_
    simp only [laws_toStringS.l0]
    refine Ev.neg (by omega) (Ev.to (Ev.now x) ?_)
    refine List.ext_getElem? fun j => ?_
    by_cases hj : j < i
    · exact hp j hj
    · rw [List.getElem?_eq_none (by omega), List.getElem?_eq_none (by omega)]
  | succ d ih =>
    intro i x hi hx hp
    have hlt : i < l.length := by omega
    refine Ev.succ ?_
    simp only [laws_toStringS.l0, rdOf_at _ l i hlt, w64_succ hlt hl]
    refine Ev.pos (by omega) (Ev.pos (by omega) (Ev.pos (by omega) (ih (i + 1) _ (by omega) (by simpa using hx) fun j hj => ?_)))
    rw [Int.toNat_natCast]
    by_cases e : i = j
    · subst e
      rw [List.getElem?_set_self (by omega), List.getElem?_eq_getElem hlt]
    · rw [List.getElem?_set_ne e]
      exact hp j (by omega)
theorem toStringS_ev (l : List ByteArray) (hl : l.length ≤ 1048576) : Ev (fun k => laws_toStringS.f k l) l := by
  simp only [laws_toStringS.f]
  exact Ev.pos (by omega) (Ev.pos (by omega) (toStringS_l0 l (by omega) l.length 0 _ (by omega) (by simp) (fun j hj => absurd hj (by omega))))
theorem eqStringS_l0 (l : List ByteArray) (hl : l.length ≤ 9223372036854775807) : ∀ (d i : Nat), i + d = l.length → Ev (fun k => laws_eqStringS.l0 k l l i) true := by
  intro d
  induction d with
  | zero =>
    intro i hi
    refine Ev.succ ?_
    simp only [laws_eqStringS.l0]
    exact Ev.neg (by omega) (Ev.now _)
  | succ d ih =>
    intro i hi
    have hlt : i < l.length := by omega
    refine Ev.succ ?_
    simp only [laws_eqStringS.l0, w64_succ hlt hl]
    exact Ev.pos (by omega) (Ev.pos (by omega) (Ev.pos (by omega) (Ev.pos trivial (ih (i + 1) (by omega)))))
theorem eqStringS_ev (l : List ByteArray) (hl : l.length ≤ 9223372036854775807) : Ev (fun k => laws_eqStringS.f k l l) true := by
  simp only [laws_eqStringS.f]
  exact Ev.pos trivial (eqStringS_l0 l hl l.length 0 (by omega))
theorem ba_size_append (a b : ByteArray) : (a ++ b).size = a.size + b.size := ByteArray.size_append
theorem strOfNums_one (n : Int) : (strOfNums [n]).size = 1 := by
  simp [strOfNums, ByteArray.size]
theorem markText_l0 : ∀ (d : Nat) (n : Int) (x : ByteArray), 0 ≤ n → n < 2 ^ d → n ≤ 4611686018427387904 → x.size + d ≤ 1000 → ∃ s, Ev (fun k => laws_markText.l0 k n x) s := by
  intro d
  induction d with
  | zero =>
    intro n x h0 h1 _ hx
    refine ⟨(⟨#[109]⟩ : ByteArray) ++ x, Ev.succ ?_⟩
    simp only [laws_markText.l0]
    exact Ev.neg (by omega) (Ev.pos (by omega) (Ev.now _))
  | succ d ih =>
    intro n x h0 h1 h2 hx
    by_cases hn : n > 0
    · have hd : Int.tdiv n 10 = n / 10 := Int.tdiv_eq_ediv_of_nonneg h0
      have hw : wrap64 (n / 10) = n / 10 := w64 (by omega) (by omega)
      have hp : (2 : Int) ^ (d + 1) = 2 * 2 ^ d := by rw [Int.pow_succ]; omega
      obtain ⟨s, hs⟩ := ih (n / 10) (strOfNums [(wrap64 (48 + (Int.tmod n 10))) % 256] ++ x) (by omega) (by omega) (by omega) (by rw [ba_size_append, strOfNums_one]; omega)
      refine ⟨s, Ev.succ ?_⟩
      simp only [laws_markText.l0, hd, hw, Option.bind_some]
      exact Ev.pos hn (Ev.pos (by rw [strOfNums_one]; omega) hs)
    · refine ⟨(⟨#[109]⟩ : ByteArray) ++ x, Ev.succ ?_⟩
      simp only [laws_markText.l0]
      exact Ev.neg hn (Ev.pos (by omega) (Ev.now _))
theorem markText_ev (n : Nat) (hn : n ≤ 4611686018427387904) : ∃ s, Ev (fun k => laws_markText.f k (n : Int)) s := by
  by_cases h : (n : Int) ≤ 0
  · exact ⟨_, by simp only [laws_markText.f]; exact Ev.pos h (Ev.now _)⟩
  · obtain ⟨s, hs⟩ := markText_l0 63 n ⟨#[]⟩ (by omega) (by omega) (by omega) (by decide)
    exact ⟨s, by simp only [laws_markText.f]; exact Ev.neg h hs⟩
noncomputable def mt (n : Nat) : ByteArray := if h : n ≤ 4611686018427387904 then Classical.choose (markText_ev n h) else ByteArray.empty
theorem mt_ev (n : Nat) (h : n ≤ 4611686018427387904) : Ev (fun k => laws_markText.f k (n : Int)) (mt n) := by
  unfold mt
  rw [dif_pos h]
  exact Classical.choose_spec (markText_ev n h)
theorem markStringS_l0 (n : Nat) (hl : n ≤ 1048576) : ∀ (d i : Nat) (x : List ByteArray), i + d = n → x.length = n → (∀ j, j < i → x[j]? = some (mt (1 + j))) →
    Ev (fun k => laws_markStringS.l0 k x ((1 + i : Nat) : Int) i) (((1 + n : Nat) : Int), (List.range n).map fun j => mt (1 + j)) := by
  intro d
  induction d with
  | zero =>
    intro i x hi hx hp
    refine Ev.succ ?_
    simp only [laws_markStringS.l0]
    refine Ev.neg (by omega) (Ev.to (Ev.now _) ?_)
    obtain rfl : i = n := by omega
    refine congrArg _ (List.ext_getElem? fun j => ?_)
    by_cases hj : j < i
    · rw [hp j hj]
      simp [hj]
    · rw [List.getElem?_eq_none (by omega), List.getElem?_eq_none (by simp; omega)]
  | succ d ih =>
    intro i x hi hx hp
    have hlt : i < x.length := by omega
    refine Ev.succ ?_
    simp only [laws_markStringS.l0]
    rw [w64_succ hlt (by omega), show wrap64 (((1 + i : Nat) : Int) + 1) = ((1 + (i + 1) : Nat) : Int) by rw [w64 (by omega) (by omega)]; omega, Int.toNat_natCast]
    refine Ev.pos (by omega) (Ev.bind (mt_ev (1 + i) (by omega)) (Ev.pos (by omega) (ih (i + 1) _ (by omega) (by simpa using hx) fun j hj => ?_)))
    by_cases e : i = j
    · subst e
      rw [List.getElem?_set_self (by omega)]
    · rw [List.getElem?_set_ne e]
      exact hp j (by omega)
theorem markStringS_ev (l : List ByteArray) (hl : l.length ≤ 1048576) : Ev (fun k => laws_markStringS.f k l 1) (((1 + l.length : Nat) : Int), (List.range l.length).map fun j => mt (1 + j)) := by
  simp only [laws_markStringS.f]
  exact markStringS_l0 l.length hl l.length 0 l (by omega) rfl (fun j hj => absurd hj (by omega))
end Go.Proofs.Ytpdggpfobbkdnaa.A
end
section
namespace Go.Proofs.Ytpdggpfobbkdnaa.A
open Go.RowKit Go.Proofs.YtpdggpfobbkdnaaW.PrintWords Go.Proofs.YtpdggpfobbkdnaaW.PrintLast
noncomputable def marks (n : Nat) : List ByteArray := (List.range n).map fun j => mt (1 + j)
theorem marks_len (n : Nat) : (marks n).length = n := by simp [marks]
theorem marks_at (n i : Nat) (h : i < n) : rdOf ByteArray.empty (marks n) (i : Int) = mt (1 + i) := by
  rw [rdOf_at _ _ _ (by rw [marks_len]; exact h)]
  simp [marks]
theorem heldStringS_l0 (n : Nat) (hl : n ≤ 1048576) : ∀ (d i : Nat), i + d = n → Ev (fun k => laws_heldStringS.l0 k (marks n) ((1 + i : Nat) : Int) i) ((1 + n : Nat) : Int) := by
  intro d
  induction d with
  | zero =>
    intro i hi
    refine Ev.succ ?_
    simp only [laws_heldStringS.l0, marks_len]
    refine Ev.neg (by omega) (Ev.to (Ev.now _) (by omega))
  | succ d ih =>
    intro i hi
    have hlt : i < n := by omega
    refine Ev.succ ?_
    simp only [laws_heldStringS.l0, marks_len]
    rw [marks_at n i hlt, w64_succ hlt (by omega), show wrap64 (((1 + i : Nat) : Int) + 1) = ((1 + (i + 1) : Nat) : Int) by rw [w64 (by omega) (by omega)]; omega]
    exact Ev.pos (by omega) (Ev.pos (by omega) (Ev.bind (mt_ev (1 + i) (by omega)) (Ev.pos rfl (ih (i + 1) (by omega)))))
theorem heldStringS_ev (n : Nat) (hl : n ≤ 1048576) : Ev (fun k => laws_heldStringS.f k (marks n) 1) ((1 + n : Nat) : Int) := by
  simp only [laws_heldStringS.f]
  exact heldStringS_l0 n hl n 0 (by omega)
theorem markStringS_marks (l : List ByteArray) (hl : l.length ≤ 1048576) : Ev (fun k => laws_markStringS.f k l 1) (((1 + l.length : Nat) : Int), marks l.length) := markStringS_ev l hl
end Go.Proofs.Ytpdggpfobbkdnaa.A
end
section
namespace Go.Proofs.Ytpdggpfobbkdnaa.A
open Go.RowKit Go.Proofs.YtpdggpfobbkdnaaW.PrintWords Go.Proofs.YtpdggpfobbkdnaaW.PrintLast
theorem eqInt64S_l0 (l : List Int) (hl : l.length ≤ 9223372036854775807) : ∀ (d i : Nat), i + d = l.length → Ev (fun k => laws_eqInt64S.l0 k l l i) true := by
  intro d
  induction d with
  | zero =>
    intro i hi
    refine Ev.succ ?_
    simp only [laws_eqInt64S.l0]
    exact Ev.neg (by omega) (Ev.now _)
  | succ d ih =>
    intro i hi
    have hlt : i < l.length := by omega
    refine Ev.succ ?_
    simp only [laws_eqInt64S.l0, w64_succ hlt hl]
    exact Ev.pos (by omega) (Ev.pos (by omega) (Ev.pos (by omega) (Ev.pos trivial (ih (i + 1) (by omega)))))
theorem eqInt64S_ev (l : List Int) (hl : l.length ≤ 9223372036854775807) : Ev (fun k => laws_eqInt64S.f k l l) true := by
  simp only [laws_eqInt64S.f]
  exact Ev.pos trivial (eqInt64S_l0 l hl l.length 0 (by omega))
end Go.Proofs.Ytpdggpfobbkdnaa.A
end
section
namespace Go.Proofs.Ytpdggpfobbkdnaa.A
open Go.RowKit Go.Proofs.YtpdggpfobbkdnaaW.PrintWords Go.Proofs.YtpdggpfobbkdnaaW.PrintLast
def onesM (m n : Nat) : List Int := (List.range n).map fun j => ((m + j : Nat) : Int)
theorem onesM_len (m n : Nat) : (onesM m n).length = n := by simp [onesM]
theorem onesM_at (m n i : Nat) (h : i < n) : rd (onesM m n) (i : Int) = ((m + i : Nat) : Int) := by
  rw [rd_at _ _ (by rw [onesM_len]; exact h)]
  simp [onesM]
theorem markInt64SM_l0 (m n : Nat) (hl : m + n ≤ 4611686018427387904) : ∀ (d i : Nat) (x : List Int), i + d = n → x.length = n → (∀ j, j < i → x[j]? = some ((m + j : Nat) : Int)) →
    Ev (fun k => laws_markInt64S.l0 k x ((m + i : Nat) : Int) i) (((m + n : Nat) : Int), onesM m n) := by
  intro d
  induction d with
  | zero =>
    intro i x hi hx hp
    refine Ev.succ ?_
    simp only [laws_markInt64S.l0]
    refine Ev.neg (by omega) (Ev.to (Ev.now _) ?_)
    obtain rfl : i = n := by omega
    refine congrArg _ (List.ext_getElem? fun j => ?_)
    by_cases hj : j < i
    · rw [hp j hj]
      simp [onesM, hj]
    · rw [List.getElem?_eq_none (by omega), List.getElem?_eq_none (by rw [onesM_len]; omega)]
  | succ d ih =>
    intro i x hi hx hp
    have hlt : i < x.length := by omega
    refine Ev.succ ?_
    simp only [laws_markInt64S.l0]
    rw [w64_succ hlt (by omega), show wrap64 (((m + i : Nat) : Int) + 1) = ((m + (i + 1) : Nat) : Int) by rw [w64 (by omega) (by omega)]; omega, Int.toNat_natCast]
    refine Ev.pos (by omega) (Ev.pos (by omega) (ih (i + 1) _ (by omega) (by simpa using hx) fun j hj => ?_))
    by_cases e : i = j
    · subst e
      rw [List.getElem?_set_self (by omega)]
    · rw [List.getElem?_set_ne e]
      exact hp j (by omega)
theorem markInt64SM_ev (m : Nat) (l : List Int) (hl : m + l.length ≤ 4611686018427387904) : Ev (fun k => laws_markInt64S.f k l (m : Int)) (((m + l.length : Nat) : Int), onesM m l.length) := by
  simp only [laws_markInt64S.f]
  exact markInt64SM_l0 m l.length hl l.length 0 l (by omega) rfl (fun j hj => absurd hj (by omega))
theorem heldInt64SM_l0 (m n : Nat) (hl : m + n ≤ 4611686018427387904) : ∀ (d i : Nat), i + d = n → Ev (fun k => laws_heldInt64S.l0 k (onesM m n) ((m + i : Nat) : Int) i) ((m + n : Nat) : Int) := by
  intro d
  induction d with
  | zero =>
    intro i hi
    refine Ev.succ ?_
    simp only [laws_heldInt64S.l0, onesM_len]
    refine Ev.neg (by omega) (Ev.to (Ev.now _) ?_)
    omega
  | succ d ih =>
    intro i hi
    have hlt : i < n := by omega
    refine Ev.succ ?_
    simp only [laws_heldInt64S.l0, onesM_len]
    rw [onesM_at m n i hlt, w64_succ hlt (by omega), show wrap64 (((m + i : Nat) : Int) + 1) = ((m + (i + 1) : Nat) : Int) by rw [w64 (by omega) (by omega)]; omega]
    exact Ev.pos (by omega) (Ev.pos (by omega) (Ev.pos rfl (ih (i + 1) (by omega))))
theorem heldInt64SM_ev (m n : Nat) (hl : m + n ≤ 4611686018427387904) : Ev (fun k => laws_heldInt64S.f k (onesM m n) (m : Int)) ((m + n : Nat) : Int) := by
  simp only [laws_heldInt64S.f]
  exact heldInt64SM_l0 m n hl n 0 (by omega)
end Go.Proofs.Ytpdggpfobbkdnaa.A
end
section
namespace Go.Proofs.Ytpdggpfobbkdnaa.A
open Go.RowKit Go.Proofs.YtpdggpfobbkdnaaW.PrintWords Go.Proofs.YtpdggpfobbkdnaaW.PrintLast
def okBytes (low high : Nat) (s : ByteArray) : Bool := s.data.toList.all fun c => decide (low ≤ c.toNat) && decide (c.toNat ≤ high)
def okFrom (low high : Nat) (s : ByteArray) (i : Nat) : Bool := (s.data.toList.drop i).all fun c => decide (low ≤ c.toNat) && decide (c.toNat ≤ high)
theorem okFrom_end (low high : Nat) (s : ByteArray) : okFrom low high s s.size = true := by
  unfold okFrom
  rw [List.drop_of_length_le (by rw [ba_size]; omega)]
  rfl
theorem okFrom_succ (low high : Nat) (s : ByteArray) (i : Nat) (h : i < s.size) : okFrom low high s i = ((decide (low ≤ s[i].toNat) && decide (s[i].toNat ≤ high)) && okFrom low high s (i + 1)) := by
  unfold okFrom
  have h' : i < s.data.toList.length := by rw [ba_size]; exact h
  rw [List.drop_eq_getElem_cons h', List.all_cons]
  rfl
theorem bytesWithin_l0 (s : ByteArray) (low high : Nat) (hs : s.size ≤ 9223372036854775807) : ∀ (d i : Nat), i + d = s.size → Ev (fun k => impl_bytesWithin.l0 k s (low : Int) (high : Int) (s.size : Int) i) (okFrom low high s i) := by
  intro d
  induction d with
  | zero =>
    intro i hi
    refine Ev.succ ?_
    simp only [impl_bytesWithin.l0]
    obtain rfl : i = s.size := by omega
    rw [okFrom_end]
    exact Ev.neg (by omega) (Ev.now _)
  | succ d ih =>
    intro i hi
    have hlt : i < s.size := by omega
    refine Ev.succ ?_
    simp only [impl_bytesWithin.l0, bt_at_nat s i hlt, w64_succ hlt hs]
    rw [okFrom_succ _ _ _ _ hlt]
    refine Ev.pos (by omega) (Ev.pos (by omega) (Ev.pos (by omega) ?_))
    by_cases h1 : (s[i].toNat : Int) < (low : Int)
    · exact Ev.pos h1 (Ev.to (Ev.now _) (by simp; intro h; omega))
    · by_cases h2 : (s[i].toNat : Int) > (high : Int)
      · exact Ev.neg h1 (Ev.pos h2 (Ev.to (Ev.now _) (by simp; intro h; omega)))
      · refine Ev.neg h1 (Ev.neg h2 (Ev.to (ih (i + 1) (by omega)) ?_))
        rw [decide_eq_true (by omega : low ≤ s[i].toNat), decide_eq_true (by omega : s[i].toNat ≤ high)]
        rfl
theorem bytesWithin_ev (s : ByteArray) (low high : Nat) (hs : s.size ≤ 9223372036854775807) : Ev (fun k => impl_bytesWithin.f k s (low : Int) (high : Int)) (okBytes low high s) := by
  simp only [impl_bytesWithin.f]
  exact bytesWithin_l0 s low high hs s.size 0 (by omega)
def isLine (s : ByteArray) : Bool := decide (s.size ≤ 100) && okBytes 32 126 s
theorem lineValid_ev (s : ByteArray) (hs : s.size ≤ 9223372036854775807) : Ev (fun k => impl_lineValid.f k s) (isLine s) := by
  simp only [impl_lineValid.f, isLine]
  by_cases h : (s.size : Int) ≤ 100
  · refine Ev.pos h (Ev.bind (bytesWithin_ev s 32 126 hs) (Ev.to (Ev.now _) ?_))
    rw [decide_eq_true (by omega : s.size ≤ 100)]
    rfl
  · refine Ev.neg h (Ev.to (Ev.now _) ?_)
    rw [decide_eq_false (by omega : ¬ s.size ≤ 100)]
    rfl
theorem l30Line_l0 (s : ByteArray) (hs : s.size ≤ 9223372036854775807) : ∀ (d i : Nat), i + d = s.size → Ev (fun k => spec_l30Line.l0 k s i) (decide (s.size ≤ 100) && okFrom 32 126 s i) := by
  intro d
  induction d with
  | zero =>
    intro i hi
    refine Ev.succ ?_
    simp only [spec_l30Line.l0]
    obtain rfl : i = s.size := by omega
    rw [okFrom_end, Bool.and_true]
    exact Ev.neg (by omega) (Ev.to (Ev.now _) (by simp; try omega))
  | succ d ih =>
    intro i hi
    have hlt : i < s.size := by omega
    refine Ev.succ ?_
    simp only [spec_l30Line.l0, bt_at_nat s i hlt, w64_succ hlt hs]
    rw [okFrom_succ _ _ _ _ hlt]
    refine Ev.pos (by omega) (Ev.pos (by omega) ?_)
    by_cases h1 : (s[i].toNat : Int) < 32
    · exact Ev.pos h1 (Ev.to (Ev.now _) (by simp; intros; omega))
    · by_cases h2 : (s[i].toNat : Int) > 126
      · exact Ev.neg h1 (Ev.pos h2 (Ev.to (Ev.now _) (by simp; intros; omega)))
      · refine Ev.neg h1 (Ev.neg h2 (Ev.to (ih (i + 1) (by omega)) ?_))
        rw [decide_eq_true (by omega : 32 ≤ s[i].toNat), decide_eq_true (by omega : s[i].toNat ≤ 126)]
        rfl
theorem l30Line_ev (s : ByteArray) (hs : s.size ≤ 9223372036854775807) : Ev (fun k => spec_l30Line.f k s) (isLine s) := by
  simp only [spec_l30Line.f]
  exact l30Line_l0 s hs s.size 0 (by omega)
def isReport (l : List ByteArray) : Bool := decide (l.length ≤ 200) && l.all isLine
theorem l30Ok_l0 (l : List ByteArray) (hl : l.length ≤ 9223372036854775807) (hs : ∀ z ∈ l, z.size ≤ 9223372036854775807) : ∀ (d i : Nat), i + d = l.length →
    Ev (fun k => spec_l30Ok.l0 k l i) (decide (l.length ≤ 200) && (l.drop i).all isLine) := by
  intro d
  induction d with
  | zero =>
    intro i hi
    refine Ev.succ ?_
    simp only [spec_l30Ok.l0]
    rw [List.drop_of_length_le (by omega)]
    exact Ev.neg (by omega) (Ev.to (Ev.now _) (by simp; try omega))
  | succ d ih =>
    intro i hi
    have hlt : i < l.length := by omega
    refine Ev.succ ?_
    simp only [spec_l30Ok.l0, rdOf_at _ l i hlt, w64_succ hlt hl]
    rw [List.drop_eq_getElem_cons hlt, List.all_cons]
    refine Ev.pos (by omega) (Ev.pos (by omega) (Ev.bind (l30Line_ev l[i] (hs _ (List.getElem_mem hlt))) ?_))
    cases h : isLine l[i] with
    | true => exact Ev.pos rfl (ih (i + 1) (by omega))
    | false => exact Ev.neg (by decide) (Ev.to (Ev.now _) (by simp))
theorem l30Ok_ev (l : List ByteArray) (hl : l.length ≤ 9223372036854775807) (hs : ∀ z ∈ l, z.size ≤ 9223372036854775807) : Ev (fun k => spec_l30Ok.f k l) (isReport l) := by
  simp only [spec_l30Ok.f]
  exact l30Ok_l0 l hl hs l.length 0 (by omega)
theorem ValidReport_l0 (l : List ByteArray) (hl : l.length ≤ 9223372036854775807) (hs : ∀ z ∈ l, z.size ≤ 9223372036854775807) : ∀ (d i : Nat), i + d = l.length →
    Ev (fun k => impl_ValidReport.l0 k l (l.length : Int) i) ((l.drop i).all isLine) := by
  intro d
  induction d with
  | zero =>
    intro i hi
    refine Ev.succ ?_
    simp only [impl_ValidReport.l0]
    rw [List.drop_of_length_le (by omega)]
    exact Ev.neg (by omega) (Ev.now _)
  | succ d ih =>
    intro i hi
    have hlt : i < l.length := by omega
    refine Ev.succ ?_
    simp only [impl_ValidReport.l0, rdOf_at _ l i hlt, w64_succ hlt hl]
    rw [List.drop_eq_getElem_cons hlt, List.all_cons]
    refine Ev.pos (by omega) (Ev.pos (by omega) (Ev.pos (by omega) (Ev.bind (lineValid_ev l[i] (hs _ (List.getElem_mem hlt))) ?_)))
    cases h : isLine l[i] with
    | true => exact Ev.pos rfl (ih (i + 1) (by omega))
    | false => exact Ev.neg (by decide) (Ev.to (Ev.now _) (by simp))
theorem ValidReport_ev (l : List ByteArray) (hl : l.length ≤ 9223372036854775807) (hs : ∀ z ∈ l, z.size ≤ 9223372036854775807) : Ev (fun k => impl_ValidReport.f k l) (isReport l) := by
  simp only [impl_ValidReport.f, isReport]
  by_cases h : (l.length : Int) > 200
  · refine Ev.pos h (Ev.to (Ev.now _) ?_)
    rw [decide_eq_false (by omega : ¬ l.length ≤ 200)]
    rfl
  · refine Ev.neg h (Ev.to (ValidReport_l0 l hl hs l.length 0 (by omega)) ?_)
    rw [decide_eq_true (by omega : l.length ≤ 200)]
    rfl
end Go.Proofs.Ytpdggpfobbkdnaa.A
end
section
namespace Go.Proofs.Ytpdggpfobbkdnaa.A
open Go.RowKit Go.Proofs.YtpdggpfobbkdnaaW.PrintWords Go.Proofs.YtpdggpfobbkdnaaW.PrintLast
def sortL (l : List ByteArray) : List ByteArray := ((l.map fun z => z.data.toList).mergeSort (fun x y => decide (x ≤ y))).map (fun l => (⟨l.toArray⟩ : ByteArray))
def leL (a b : ByteArray) : Prop := a.data.toList ≤ b.data.toList
theorem leL_trans {a b c : ByteArray} (h1 : leL a b) (h2 : leL b c) : leL a c := List.le_trans h1 h2
theorem leL_of_less {a b : ByteArray} (h : Op.bytesLess a.toList b.toList = true) : leL a b := by
  rw [toList_eq, toList_eq, Go.Proofs.bytesLess_eq] at h
  exact List.le_of_lt (of_decide_eq_true h)
theorem leL_of_not {a b : ByteArray} (h : ¬ Op.bytesLess a.toList b.toList = true) : leL b a := by
  rw [toList_eq, toList_eq, Go.Proofs.bytesLess_eq] at h
  exact List.not_lt.1 fun hl => h (decide_eq_true hl)
theorem sortL_eq {l r : List ByteArray} (hp : r.Perm l) (hs : r.Pairwise leL) : r = sortL l := by
  have tr : ∀ a b c : List UInt8, decide (a ≤ b) = true → decide (b ≤ c) = true → decide (a ≤ c) = true := fun a b c h1 h2 => by simp only [decide_eq_true_eq] at *; exact List.le_trans h1 h2
  have tot : ∀ a b : List UInt8, (decide (a ≤ b) || decide (b ≤ a)) = true := fun a b => by simp only [Bool.or_eq_true, decide_eq_true_eq]; exact List.le_total a b
  have e : r.map (fun z => z.data.toList) = (l.map fun z => z.data.toList).mergeSort (fun x y => decide (x ≤ y)) := by
    refine List.Perm.eq_of_pairwise (le := fun a b => decide (a ≤ b) = true) (fun a b _ _ h1 h2 => ?_) ?_ (List.pairwise_mergeSort tr tot _) ((hp.map _).trans (List.mergeSort_perm _ _).symm)
    · simp only [decide_eq_true_eq] at h1 h2
      exact List.le_antisymm h1 h2
    · rw [List.pairwise_map]
      exact hs.imp fun h => by simpa [leL] using h
  unfold sortL
  rw [← e, List.map_map]
  conv => lhs; rw [← List.map_id r]
  exact List.map_congr_left fun z _ => by simp
theorem sortL_perm (l : List ByteArray) : (sortL l).Perm l := by
  have h := (List.mergeSort_perm (l.map fun z => z.data.toList) (fun x y => decide (x ≤ y))).map (fun l => (⟨l.toArray⟩ : ByteArray))
  rw [List.map_map] at h
  have e : l.map ((fun l => (⟨l.toArray⟩ : ByteArray)) ∘ fun z => z.data.toList) = l := by
    conv => rhs; rw [← List.map_id l]
    exact List.map_congr_left fun z _ => by simp
  rw [e] at h
  exact h
theorem sortL_pw (l : List ByteArray) : (sortL l).Pairwise leL := by
  have tr : ∀ a b c : List UInt8, decide (a ≤ b) = true → decide (b ≤ c) = true → decide (a ≤ c) = true := fun a b c h1 h2 => by simp only [decide_eq_true_eq] at *; exact List.le_trans h1 h2
  have tot : ∀ a b : List UInt8, (decide (a ≤ b) || decide (b ≤ a)) = true := fun a b => by simp only [Bool.or_eq_true, decide_eq_true_eq]; exact List.le_total a b
  unfold sortL
  rw [List.pairwise_map]
  exact (List.pairwise_mergeSort tr tot _).imp fun h => by simpa [leL] using h
theorem sortL_len (l : List ByteArray) : (sortL l).length = l.length := (sortL_perm l).length_eq
theorem l30Sorted_l1 (l : List ByteArray) (hn : l.length ≤ 1048576) (i : Nat) (r : List ByteArray) (hi : i < l.length)
    (cont : ∀ x : List ByteArray, x.Perm l → (x.take (i + 1)).Pairwise leL → Ev (fun k => spec_l30Sorted.l0 k x ((i + 1 : Nat) : Int)) r) :
    ∀ (j : Nat) (A B C : List ByteArray) (v : ByteArray), A.length = j → A.length + B.length = i → (A ++ B).Pairwise leL → (∀ b ∈ B, leL v b) → (A ++ v :: (B ++ C)).Perm l →
      Ev (fun k => spec_l30Sorted.l1 k (A ++ v :: (B ++ C)) (i : Int) (j : Int)) r := by
  have stop : ∀ (A B C : List ByteArray) (v : ByteArray), A.length + B.length = i → (A ++ B).Pairwise leL → (∀ b ∈ B, leL v b) → (∀ a ∈ A, leL a v) → (A ++ v :: (B ++ C)).Perm l →
      Ev (fun k => spec_l30Sorted.l0 k (A ++ v :: (B ++ C)) (wrap64 ((i : Int) + 1))) r := by
    intro A B C v hl hpw hB hA hp
    rw [w64_succ hi (by omega)]
    refine cont _ hp ?_
    have e : (A ++ v :: (B ++ C)).take (i + 1) = A ++ v :: B := by
      rw [show A ++ v :: (B ++ C) = (A ++ v :: B) ++ C by simp, List.take_left' (by simp; omega)]
    rw [e]
    rw [List.pairwise_append] at hpw ⊢
    refine ⟨hpw.1, List.pairwise_cons.2 ⟨hB, hpw.2.1⟩, fun a ha b hb => ?_⟩
    rcases List.mem_cons.1 hb with rfl | hb
    · exact hA a ha
    · exact hpw.2.2 a ha b hb
  intro j
  induction j with
  | zero =>
    intro A B C v hA hl hpw hB hp
    refine Ev.succ ?_
    simp only [spec_l30Sorted.l1]
    obtain rfl : A = [] := List.eq_nil_of_length_eq_zero hA
    exact Ev.neg (by omega) (stop [] B C v hl hpw hB (fun a ha => by simp at ha) hp)
  | succ j ih =>
    intro A B C v hA hl hpw hB hp
    obtain ⟨A', u, rfl⟩ : ∃ A' u, A = A' ++ [u] := ⟨A.dropLast, A.getLast (by intro h; simp [h] at hA), (List.dropLast_concat_getLast _).symm⟩
    have hA' : A'.length = j := by simpa using hA
    have hlen : (A' ++ [u] ++ v :: (B ++ C)).length = l.length := hp.length_eq
    have hw : wrap64 (((j + 1 : Nat) : Int) - 1) = (j : Int) := by rw [w64 (by omega) (by omega)]; omega
    have hj1 : j + 1 < (A' ++ [u] ++ v :: (B ++ C)).length := by rw [hlen]; simp at hl; omega
    refine Ev.succ ?_
    simp only [spec_l30Sorted.l1, hw]
    refine Ev.pos (by omega) (Ev.pos (by omega) (Ev.pos (by omega) (Ev.pos (by omega) (Ev.pos (by omega) ?_))))
    have e1 : rdOf ByteArray.empty (A' ++ [u] ++ v :: (B ++ C)) ((j + 1 : Nat) : Int) = v := by
      rw [rdOf_at _ _ _ hj1]
      subst hA'
      simp
    have e2 : rdOf ByteArray.empty (A' ++ [u] ++ v :: (B ++ C)) (j : Int) = u := by
      rw [rdOf_at _ _ _ (by omega)]
      subst hA'
      simp
    rw [e1, e2]
    by_cases hlt : Op.bytesLess v.toList u.toList = true
    · refine Ev.pos hlt ?_
      have e3 : ((A' ++ [u] ++ v :: (B ++ C)).set (((j + 1 : Nat) : Int)).toNat u).set ((j : Int)).toNat v = A' ++ v :: ((u :: B) ++ C) := by
        subst hA'
        simp
      rw [e3]
      refine ih A' (u :: B) C v hA' (by simp at hl ⊢; omega) (by simpa using hpw) (fun b hb => ?_) ?_
      · rcases List.mem_cons.1 hb with rfl | hb
        · exact leL_of_less hlt
        · exact hB b hb
      · refine List.Perm.trans ?_ hp
        have : (A' ++ [u] ++ v :: (B ++ C)) = A' ++ (u :: v :: (B ++ C)) := by simp
        rw [this]
        exact List.Perm.append_left _ (List.Perm.swap _ _ _)
    · refine Ev.neg hlt (stop (A' ++ [u]) B C v hl hpw hB (fun a ha => ?_) hp)
      have huv : leL u v := leL_of_not hlt
      rcases List.mem_append.1 ha with ha | ha
      · rw [List.append_assoc, List.pairwise_append] at hpw
        exact leL_trans (hpw.2.2 a ha u (by simp)) huv
      · obtain rfl : a = u := by simpa using ha
        exact huv
theorem l30Sorted_l0 (l : List ByteArray) (hn : l.length ≤ 1048576) : ∀ (d i : Nat) (x : List ByteArray), l.length ≤ i + d → i ≤ l.length + 1 → x.Perm l → (x.take i).Pairwise leL →
    Ev (fun k => spec_l30Sorted.l0 k x (i : Int)) (sortL l) := by
  intro d
  induction d with
  | zero =>
    intro i x hi _ hp hpw
    have hx := hp.length_eq
    refine Ev.succ ?_
    simp only [spec_l30Sorted.l0]
    refine Ev.neg (by omega) (Ev.to (Ev.now _) (sortL_eq hp ?_))
    rw [List.take_of_length_le (by omega)] at hpw
    exact hpw
  | succ d ih =>
    intro i x hi hi2 hp hpw
    have hx := hp.length_eq
    by_cases hlt : i < l.length
    · refine Ev.succ ?_
      simp only [spec_l30Sorted.l0]
      refine Ev.pos (by omega) ?_
      have e : x = x.take i ++ x[i] :: ([] ++ x.drop (i + 1)) := by
        rw [List.nil_append, ← List.drop_eq_getElem_cons, List.take_append_drop]
      have h := l30Sorted_l1 l hn i (sortL l) hlt (fun y hy hyp => ih (i + 1) y (by omega) (by omega) hy hyp) i (x.take i) [] (x.drop (i + 1)) x[i] (by simp; omega) (by simp; omega) (by simpa using hpw) (fun b hb => by simp at hb) (by rw [← e]; exact hp)
      rw [← e] at h
      exact h
    · refine Ev.succ ?_
      simp only [spec_l30Sorted.l0]
      refine Ev.neg (by omega) (Ev.to (Ev.now _) (sortL_eq hp ?_))
      rw [List.take_of_length_le (by omega)] at hpw
      exact hpw
theorem l30Sorted_ev (l : List ByteArray) (hn : l.length ≤ 1048576) : Ev (fun k => spec_l30Sorted.f k l) (sortL l) := by
  simp only [spec_l30Sorted.f]
  refine Ev.bind (Ev.const rfl) (Ev.pos (by simp; omega) ?_)
  rw [List.nil_append]
  have h := l30Sorted_l0 l hn l.length 1 l (by omega) (by omega) (List.Perm.refl _) ?_
  · exact h
  · cases l with
    | nil => simp
    | cons a r => simp
end Go.Proofs.Ytpdggpfobbkdnaa.A
end
section
namespace Go.Proofs.Ytpdggpfobbkdnaa.A
open Go.RowKit Go.Proofs.YtpdggpfobbkdnaaW.PrintWords Go.Proofs.YtpdggpfobbkdnaaW.PrintLast
theorem leL_anti {a b : ByteArray} (h1 : leL a b) (h2 : leL b a) : a = b := bytes_ext (by rw [toList_eq, toList_eq]; exact List.le_antisymm h1 h2)
structure Runs (p A : List ByteArray) (u : ByteArray) : Prop where
  sorted : (p ++ []).Pairwise leL
  last : p.getLast? = some u
  pw : (A ++ [u]).Pairwise leL
  nodup : (A ++ [u]).Nodup
  mem : ∀ x, x ∈ A ++ [u] ↔ x ∈ p
def bts (p : List ByteArray) : List (List UInt8) := p.map fun z => z.data.toList
def num (p : List ByteArray) (x : ByteArray) : Nat := (bts p).count x.data.toList
theorem dl_inj {a b : ByteArray} (h : a.data.toList = b.data.toList) : a = b := bytes_ext (by rw [toList_eq, toList_eq]; exact h)
theorem num_le (p : List ByteArray) (x : ByteArray) : num p x ≤ p.length := by
  refine Nat.le_trans (List.count_le_length ..) ?_
  simp [bts]
theorem num_self (p : List ByteArray) (x : ByteArray) : num (p ++ [x]) x = num p x + 1 := by simp [num, bts]
theorem num_other (p : List ByteArray) {x u : ByteArray} (h : x ≠ u) : num (p ++ [u]) x = num p x := by
  have hne : ¬ u.data.toList = x.data.toList := fun e => h (dl_inj e).symm
  simp only [num, bts, List.map_append, List.map_singleton, List.count_append, List.count_singleton, beq_iff_eq, hne, if_false, Nat.add_zero]
theorem num_none {p : List ByteArray} {x : ByteArray} (h : x ∉ p) : num p x = 0 := by
  unfold num bts
  rw [List.count_eq_zero, List.mem_map]
  rintro ⟨z, hz, e⟩
  exact h (dl_inj e ▸ hz)
def cnts (p : List ByteArray) (l : List ByteArray) : List Int := l.map fun x => ((num p x : Nat) : Int)
theorem cnts_same (p A : List ByteArray) (u : ByteArray) (h : u ∉ A) : cnts (p ++ [u]) A = cnts p A := by
  refine List.map_congr_left fun x hx => ?_
  have hne : x ≠ u := fun e => h (e ▸ hx)
  rw [num_other p hne]
theorem set_last (A : List Int) (a b : Int) : (A ++ [a]).set A.length b = A ++ [b] := by simp
theorem rd_last (A : List Int) (a : Int) : rd (A ++ [a]) ((A.length : Nat) : Int) = a := by
  rw [rd_at _ _ (by simp)]
  simp
theorem CountLines_l0 (s : List ByteArray) (hn : s.length ≤ 1048576) (hs : s.Pairwise leL) : ∀ (d i : Nat) (A : List ByteArray) (u : ByteArray), i + d = s.length → 0 < i → Runs (s.take i) A u →
    ∃ (B : List ByteArray) (v : ByteArray), Runs s B v ∧ Ev (fun k => spec_CountLines.l0 k s (A ++ [u]) (cnts (s.take i) (A ++ [u])) (i : Int)) (B ++ [v], cnts s (B ++ [v]), 0) := by
  intro d
  induction d with
  | zero =>
    intro i A u hi _ hr
    obtain rfl : i = s.length := by omega
    rw [List.take_length] at hr ⊢
    refine ⟨A, u, hr, Ev.succ ?_⟩
    simp only [spec_CountLines.l0]
    exact Ev.neg (by omega) (Ev.now _)
  | succ d ih =>
    intro i A u hi h0 hr
    have hlt : i < s.length := by omega
    have htk : s.take (i + 1) = s.take i ++ [s[i]] := List.take_succ_eq_append_getElem hlt
    have hlen : (A ++ [u]).length ≤ i := by
      have h1 := hr.nodup.length_le_of_subset (fun x hx => (hr.mem x).1 hx)
      rw [List.length_take] at h1
      omega
    have hlA : (A ++ [u]).length = A.length + 1 := by simp
    have hlc : (cnts (s.take i) (A ++ [u])).length = A.length + 1 := by simp [cnts]
    have hw1 : wrap64 ((i : Int) - 1) = ((i - 1 : Nat) : Int) := by rw [w64 (by omega) (by omega)]; omega
    have hu : s[i - 1]'(by omega) = u := by
      have h1 := hr.last
      rw [List.getLast?_eq_getElem?, List.length_take, List.getElem?_take_of_lt (by omega), show min i s.length - 1 = i - 1 by omega, List.getElem?_eq_getElem (by omega)] at h1
      exact Option.some.inj h1
    have hcsplit : cnts (s.take i) (A ++ [u]) = cnts (s.take i) A ++ [((num (s.take i) u : Nat) : Int)] := by simp [cnts]
    have hlcA : (cnts (s.take i) A).length = A.length := by simp [cnts]
    have hcu : num (s.take i) u ≤ i := by
      refine Nat.le_trans (num_le _ _) ?_
      rw [List.length_take]
      omega
    have hpw' : (s.take (i + 1)).Pairwise leL := hs.sublist (List.take_sublist _ _)
    by_cases he : s[i].toList = u.toList
    · have hiu : s[i] = u := bytes_ext he
      have hr' : Runs (s.take (i + 1)) A u := by
        refine ⟨by simpa using hpw', by rw [htk, hiu]; simp, hr.pw, hr.nodup, fun x => ?_⟩
        rw [htk, hr.mem, List.mem_append, hiu]
        constructor
        · exact .inl
        · rintro (h | h)
          · exact h
          · obtain rfl : x = u := by simpa using h
            exact (hr.mem x).1 (by simp)
      obtain ⟨B, v, hB, hE⟩ := ih (i + 1) A u (by omega) (by omega) hr'
      refine ⟨B, v, hB, Ev.succ ?_⟩
      have hnA : u ∉ A := fun h => by
        have := hr.nodup
        rw [List.nodup_append] at this
        exact this.2.2 u h u (by simp) rfl
      have hc' : cnts (s.take (i + 1)) (A ++ [u]) = cnts (s.take i) A ++ [((num (s.take i) u : Nat) : Int) + 1] := by
        rw [htk, hiu]
        unfold cnts
        rw [List.map_append]
        congr 1
        · exact cnts_same _ _ _ hnA
        · rw [List.map_singleton, num_self]
          rfl
      rw [hc'] at hE
      simp only [spec_CountLines.l0, hw1, w64_succ hlt (by omega : s.length ≤ _), rdOf_at _ s i hlt, rdOf_at _ s (i - 1) (by omega), hu]
      have hw2 : wrap64 (((cnts (s.take i) (A ++ [u])).length : Int) - 1) = (((cnts (s.take i) A).length : Nat) : Int) := by rw [hlc, hlcA, w64 (by omega) (by omega)]; omega
      refine Ev.pos (by omega) (Ev.neg (by omega) (Ev.pos (by omega) (Ev.pos (by omega) (Ev.pos (by omega) (Ev.pos he ?_)))))
      rw [hw2]
      refine Ev.pos (by omega) (Ev.pos (by rw [hlc, hlcA]; omega) ?_)
      rw [hcsplit, rd_last, Int.toNat_natCast, set_last, w64 (by omega) (by omega)]
      exact hE
    · have hne : s[i] ≠ u := fun e => he (by rw [e])
      have hui : leL u s[i] := by
        have := (List.pairwise_iff_getElem.1 hs) (i - 1) i (by omega) hlt (by omega)
        rw [hu] at this
        exact this
      have hall : ∀ x ∈ s.take i, leL x u := by
        intro x hx
        obtain ⟨j, hj, rfl⟩ := List.getElem_of_mem hx
        rw [List.length_take] at hj
        rw [List.getElem_take]
        by_cases ej : j = i - 1
        · subst ej
          rw [hu]
          exact List.le_refl _
        · have := (List.pairwise_iff_getElem.1 hs) j (i - 1) (by omega) (by omega) (by omega)
          rw [hu] at this
          exact this
      have hni : s[i] ∉ s.take i := fun h => hne (leL_anti (hall _ h) hui)
      have hr' : Runs (s.take (i + 1)) (A ++ [u]) s[i] := by
        refine ⟨by simpa using hpw', by rw [htk]; exact List.getLast?_concat .., ?_, ?_, fun x => ?_⟩
        · rw [List.pairwise_append]
          refine ⟨hr.pw, by simp, fun a ha b hb => ?_⟩
          obtain rfl : b = s[i] := by simpa using hb
          exact leL_trans (hall a ((hr.mem a).1 ha)) hui
        · rw [List.nodup_append]
          refine ⟨hr.nodup, by simp, fun a ha b hb => ?_⟩
          obtain rfl : b = s[i] := by simpa using hb
          exact fun e => hni (by rw [← e]; exact (hr.mem a).1 ha)
        · have hm := hr.mem x
          rw [htk]
          simp only [List.mem_append] at hm ⊢
          rw [hm]
      obtain ⟨B, v, hB, hE⟩ := ih (i + 1) (A ++ [u]) s[i] (by omega) (by omega) hr'
      refine ⟨B, v, hB, Ev.succ ?_⟩
      have hc' : cnts (s.take (i + 1)) (A ++ [u] ++ [s[i]]) = cnts (s.take i) (A ++ [u]) ++ [1] := by
        rw [htk]
        unfold cnts
        rw [List.map_append]
        congr 1
        · exact cnts_same _ _ _ (fun h => hni ((hr.mem _).1 h))
        · rw [List.map_singleton, num_self, num_none hni]
          rfl
      rw [hc'] at hE
      simp only [spec_CountLines.l0, hw1, w64_succ hlt (by omega : s.length ≤ _), rdOf_at _ s i hlt, rdOf_at _ s (i - 1) (by omega), hu]
      refine Ev.pos (by omega) (Ev.neg (by omega) (Ev.pos (by omega) (Ev.pos (by omega) (Ev.pos (by omega) (Ev.neg he (Ev.pos (by omega) (Ev.pos (by omega) (Ev.bind (Ev.const rfl) ?_))))))))
      have hw2 : wrap64 (((cnts (s.take i) (A ++ [u]) ++ [(0 : Int)]).length : Int) - 1) = (((cnts (s.take i) (A ++ [u])).length : Nat) : Int) := by rw [List.length_append, hlc, List.length_singleton, w64 (by omega) (by omega)]; omega
      rw [hw2]
      refine Ev.pos (by omega) (Ev.pos (by rw [List.length_append, hlc, List.length_singleton]; omega) ?_)
      rw [rd_last, Int.toNat_natCast, set_last, show wrap64 ((0 : Int) + 1) = 1 by rw [w64 (by omega) (by omega)]; rfl]
      exact hE
theorem keys_runs {l B : List ByteArray} {v : ByteArray} (hp : ∀ x, x ∈ B ++ [v] ↔ x ∈ l) (hpw : (B ++ [v]).Pairwise leL) (hnd : (B ++ [v]).Nodup) : impl_CountLines.keys (bts l) = bts (B ++ [v]) := by
  have hn1 : (bts (B ++ [v])).Nodup := by
    unfold bts
    rw [List.nodup_iff_pairwise_ne, List.pairwise_map]
    exact (List.nodup_iff_pairwise_ne.1 hnd).imp fun h e => h (dl_inj e)
  have hq : (bts (B ++ [v])).Perm (impl_CountLines.dd (bts l)) := by
    refine (List.perm_ext_iff_of_nodup hn1 (impl_CountLines.nodup_dd _)).2 fun y => ?_
    rw [impl_CountLines.mem_dd]
    unfold bts
    rw [List.mem_map, List.mem_map]
    constructor
    · rintro ⟨z, hz, e⟩
      exact ⟨z, (hp z).1 hz, e⟩
    · rintro ⟨z, hz, e⟩
      exact ⟨z, (hp z).2 hz, e⟩
  have tr : ∀ a b c : List UInt8, decide (a ≤ b) = true → decide (b ≤ c) = true → decide (a ≤ c) = true := fun a b c h1 h2 => by simp only [decide_eq_true_eq] at *; exact List.le_trans h1 h2
  have tot : ∀ a b : List UInt8, (decide (a ≤ b) || decide (b ≤ a)) = true := fun a b => by simp only [Bool.or_eq_true, decide_eq_true_eq]; exact List.le_total a b
  unfold impl_CountLines.keys
  refine List.Perm.eq_of_pairwise (le := fun a b => decide (a ≤ b) = true) (fun a b _ _ h1 h2 => ?_) (List.pairwise_mergeSort tr tot _) ?_ ((List.mergeSort_perm _ _).trans hq.symm)
  · simp only [decide_eq_true_eq] at h1 h2
    exact List.le_antisymm h1 h2
  · unfold bts
    rw [List.pairwise_map]
    exact hpw.imp fun h => by simpa [leL] using h
theorem CountLines_ev (l : List ByteArray) (hl : l.length ≤ 1048576) (hs : ∀ z ∈ l, z.size ≤ 1048576) :
    ∃ (r : List ByteArray) (m : List Int) (c : Int), r.length ≤ 1048576 ∧ m.length ≤ 1048576 ∧ Ev (fun k => spec_CountLines.f k l) (r, m, c) ∧ Ev (fun k => impl_CountLines.f k l) (r, m, c) := by
  have hs' : ∀ z ∈ l, z.size ≤ 9223372036854775807 := fun z hz => Nat.le_trans (hs z hz) (by omega)
  have a := l30Ok_ev l (by omega) hs'
  obtain ⟨n, b⟩ := ValidReport_ev l (by omega) hs'
  simp only [spec_CountLines.f]
  cases hr : isReport l with
  | false =>
    rw [hr] at a b
    refine ⟨[], [], 1, by simp, by simp, Ev.bind a (Ev.neg (by decide) (Ev.now _)), n, fun k hk => ?_⟩
    have h := b k hk
    simp only [impl_CountLines.f, h]
  | true =>
    rw [hr] at a b
    have hsl := sortL_len l
    have hperm := sortL_perm l
    have hpw := sortL_pw l
    have hso := l30Sorted_ev l hl
    revert hsl hperm hpw hso
    generalize sortL l = s
    intro hsl hperm hpw hso
    have himp : ∀ k, n ≤ k → impl_CountLines.f k l = some ((impl_CountLines.keys (bts l)).map (fun l => (⟨l.toArray⟩ : ByteArray)), (impl_CountLines.keys (bts l)).map (fun x => (((bts l).count x : Nat) : Int)), 0) := by
      intro k hk
      have h := b k hk
      simp only [impl_CountLines.f, h]
      exact if_pos ⟨hl, hs⟩
    by_cases h0 : s.length = 0
    · have hs0 : s = [] := List.eq_nil_of_length_eq_zero h0
      have hl0 : l = [] := List.eq_nil_of_length_eq_zero (by omega)
      refine ⟨[], [], 0, by simp, by simp, Ev.bind a (Ev.pos rfl (Ev.bind hso (Ev.succ ?_))), n, fun k hk => ?_⟩
      · simp only [spec_CountLines.l0]
        exact Ev.neg (by omega) (Ev.now _)
      · refine (himp k hk).trans ?_
        rw [hl0]
        simp [impl_CountLines.keys, bts, impl_CountLines.dd]
    · have hlt : 0 < s.length := by omega
      have ht1 : s.take 1 = [s[0]] := by
        rw [show (1 : Nat) = 0 + 1 from rfl, List.take_succ_eq_append_getElem hlt]
        simp
      have hr1 : Runs (s.take 1) [] s[0] := by
        rw [ht1]
        exact ⟨by simp, by simp, by simp, by simp, fun x => by simp⟩
      obtain ⟨B, v, hB, hE⟩ := CountLines_l0 s (by omega) hpw (s.length - 1) 1 [] s[0] (by omega) (by omega) hr1
      have hmem : ∀ x, x ∈ B ++ [v] ↔ x ∈ l := fun x => by rw [hB.mem, hperm.mem_iff]
      have hk := keys_runs hmem hB.pw hB.nodup
      have hlen : (B ++ [v]).length ≤ 1048576 := by
        have := hB.nodup.length_le_of_subset (fun x hx => (hmem x).1 hx)
        omega
      refine ⟨B ++ [v], cnts s (B ++ [v]), 0, hlen, by unfold cnts; rw [List.length_map]; exact hlen, Ev.bind a (Ev.pos rfl (Ev.bind hso (Ev.succ ?_))), n, fun k hkk => ?_⟩
      · have hc1 : cnts (s.take 1) ([] ++ [s[0]]) = [1] := by
          rw [ht1]
          simp [cnts, num, bts]
        rw [hc1] at hE
        have e0 : rdOf ByteArray.empty s 0 = s[0] := rdOf_at _ s 0 hlt
        simp only [spec_CountLines.l0, e0]
        refine Ev.pos (by omega) (Ev.pos trivial (Ev.pos (by omega) (Ev.pos (by simp) (Ev.pos (by simp) (Ev.bind (Ev.const rfl) ?_)))))
        have e1 : wrap64 ((([] ++ [(0 : Int)] : List Int).length : Int) - 1) = 0 := by rw [w64 (by simp) (by simp)]; simp
        have e2 : wrap64 (rd ([] ++ [(0 : Int)]) 0 + 1) = 1 := by
          have : rd ([] ++ [(0 : Int)]) 0 = 0 := rd_last [] 0
          rw [this, w64 (by omega) (by omega)]
          rfl
        have e3 : wrap64 ((0 : Int) + 1) = ((1 : Nat) : Int) := by rw [w64 (by omega) (by omega)]; rfl
        rw [e1, e2, e3]
        exact Ev.pos (by omega) (Ev.pos (by simp) hE)
      · refine (himp k hkk).trans ?_
        rw [hk]
        congr 2
        · unfold bts
          rw [List.map_map]
          conv => rhs; rw [← List.map_id (B ++ [v])]
          exact List.map_congr_left fun z _ => by simp
        · congr 1
          unfold cnts
          rw [show bts (B ++ [v]) = (B ++ [v]).map (fun z => z.data.toList) from rfl, List.map_map]
          refine List.map_congr_left fun z _ => ?_
          have hpc : (bts s).count z.data.toList = (bts l).count z.data.toList := (hperm.map _).count_eq _
          simp only [Function.comp, num, hpc]
theorem FnExactCountLines : laws_FnExactCountLines.Pure := by
  rintro l ⟨hl, hs⟩
  refine Ev.rounds (g := fun k => laws_FnExactCountLines.f k l) ?_
  simp only [laws_FnExactCountLines.f]
  obtain ⟨t, ht, hsz⟩ := szStringS_ev l hl hs
  refine Ev.bind ht ?_
  by_cases hneg : t < 0
  · exact Ev.pos hneg (Ev.now _)
  refine Ev.neg hneg ?_
  obtain ⟨hl1, hs1⟩ := hsz (by omega)
  obtain ⟨r, m, c, hr, hm, h1, h2⟩ := CountLines_ev l hl1 hs1
  have he := eqStringS_ev r (by omega)
  have hi := eqInt64S_ev m (by omega)
  have ht2 := toStringS_ev l hl1
  have hmk := markStringS_marks r hr
  have hmi := markInt64SM_ev (1 + r.length) m (by omega)
  have hhs := heldStringS_ev r.length hr
  have hhi := heldInt64SM_ev (1 + r.length) m.length (by omega)
  refine Ev.bind ht2 (Ev.bind h1 (Ev.bind ht2 (Ev.bind h2 (Ev.bind he (Ev.pos rfl (Ev.bind hi (Ev.pos rfl (Ev.succ ?_))))))))
  simp only [laws_FnExactCountLines.j0, bne_self_eq_false]
  refine Ev.neg (by decide) (Ev.bind ht2 (Ev.bind (eqStringS_ev l (by omega)) (Ev.pos rfl (Ev.bind (markStringS_ev l hl1) (Ev.neg (by omega) (Ev.bind he (Ev.pos rfl (Ev.bind hi (Ev.pos rfl (Ev.succ ?_))))))))))
  simp only [laws_FnExactCountLines.j1]
  refine Ev.neg (by decide) (Ev.bind hmk (Ev.bind hmi (Ev.bind hhs (Ev.neg (by omega) (Ev.bind hhi (Ev.neg (by omega) (Ev.pos rfl (Ev.bind ht2 (Ev.bind h2 (Ev.bind he (Ev.pos rfl (Ev.bind hi (Ev.pos rfl (Ev.succ ?_))))))))))))))
  simp only [laws_FnExactCountLines.j2, bne_self_eq_false]
  exact Ev.neg (by decide) (Ev.bind hhs (Ev.neg (by omega) (Ev.bind hhi (Ev.neg (by omega) (Ev.pos rfl (Ev.now _))))))
end Go.Proofs.Ytpdggpfobbkdnaa.A
end
section
namespace Go.Proofs.Ytpdggpfobbkdnaa.Open
open Go.ChangeShapes Go.WideShapes Go.Deep Go.RowKit Go.Proofs.YtpdggpfobbkdnaaW.PrintWords
structure Opens {α : Type} (P : Program) (t : TypeId) (d : Kd α) (wf : α → Prop) : Prop where
  out : ∀ {H : Type} {enc : TypeId × Value → H} {w : World} {base : Nat} {spare : Nat → Bool} {held : Bool} {fuel : Nat} {cs : List Value} {x : DataW H × List MemPlace},
    DataW.trod enc P w base spare held fuel t cs = some x → ∃ v : α, d.K w v cs ∧ wf v
theorem opens_string {P : Program} {t : TypeId} (ht : P.underlying t = some .string) : Opens P t Kd.string (fun s => s.size ≤ maxLen) := by
  refine ⟨?_⟩
  intro H enc w base spare held fuel cs x h
  obtain ⟨s, rfl, _, hw⟩ := DataW.trod_string ht h
  exact ⟨s, rfl, hw⟩
theorem opens_slice {α : Type} {P : Program} {t e : TypeId} {d : Kd α} {wf : α → Prop} (ht : P.underlying t = some (.slice e)) (hd : Opens P e d wf) (hc : P.cellsOf e = d.sz) :
    Opens P t (Kd.slice e d) (fun l => l.length ≤ maxLen ∧ ∀ x ∈ l, wf x) := by
  refine ⟨?_⟩
  intro H enc w base spare held fuel cs x h
  rcases open_slice ht h with ⟨rfl, _⟩ | ⟨a, len, cap, m, n, D, Pl, rfl, _, hl, hm, hmm, _, hi⟩
  · exact ⟨[], ⟨none, 0, rfl, Nat.le_refl _, ⟨rfl, by simp, fun h => absurd h (by simp)⟩⟩, by simp⟩
  · have hlm : len ≤ m := by
      rw [hmm]
      split
      · exact hl
      · exact Nat.le_refl _
    have each : ∀ i, i < len → ∃ v : α, (∃ cs', w.cells? base (a.add (i * d.sz)) d.sz = some cs' ∧ d.K w v cs') ∧ wf v := by
      intro i hil
      obtain ⟨cs', h1, h2⟩ := hi i (by omega)
      obtain ⟨v, h3, h4⟩ := hd.out h2
      rw [hc] at h1
      exact ⟨v, ⟨cs', h1, h3⟩, h4⟩
    have all : ∀ k, k ≤ len → ∃ l : List α, l.length = k ∧ ∀ i v, l[i]? = some v → (∃ cs', w.cells? base (a.add (i * d.sz)) d.sz = some cs' ∧ d.K w v cs') ∧ wf v := by
      intro k
      induction k with
      | zero => exact fun _ => ⟨[], rfl, fun i v h => by simp at h⟩
      | succ k ih =>
        intro hk
        obtain ⟨l, hl1, hl2⟩ := ih (by omega)
        obtain ⟨v, hv⟩ := each k (by omega)
        refine ⟨l ++ [v], by simp [hl1], fun i u hu => ?_⟩
        by_cases hik : i < k
        · rw [List.getElem?_append_left (by omega)] at hu
          exact hl2 i u hu
        · have hlt := (List.getElem?_eq_some_iff.1 hu).1
          simp [hl1] at hlt
          obtain rfl : i = k := by omega
          rw [List.getElem?_append_right (by omega), hl1, Nat.sub_self] at hu
          simp at hu
          subst hu
          exact hv
    obtain ⟨l, hl1, hl2⟩ := all len (Nat.le_refl _)
    refine ⟨l, ⟨some a, cap, by rw [hl1], by omega, ⟨rfl, by unfold maxLen at hm; omega, fun _ => ⟨a, rfl, fun j p hp => ?_⟩⟩⟩, by omega, fun x hx => ?_⟩
    · obtain ⟨⟨cs', hcs, hK⟩, _⟩ := hl2 j p hp
      obtain ⟨_, hcl, hat⟩ := World.cells?_some hcs
      refine ⟨cs', d.K_len hK, hK, fun i u hu => ?_⟩
      have hlt := (List.getElem?_eq_some_iff.1 hu).1
      have := hat i (by omega)
      rw [← Go.Deep.add_add, this, hu]
    · obtain ⟨i, hi'⟩ := List.getElem?_of_mem hx
      exact (hl2 i x hi').2
theorem arg_slice {α H : Type} {enc : TypeId × Value → H} {P : Program} {W : World} {base : Nat} {spare : Nat → Bool} {held : Bool} {t e : TypeId} {d : Kd α} {wf : List α → Prop} {a : Option Addr} {len cap : Nat} {x : DataW H} {ps : List MemPlace}
    (ho : Opens P t (Kd.slice e d) wf) (h : DataW.Trod enc P W base spare held t (.slice a len cap) x ps) :
    ∃ l : List α, len = l.length ∧ l.length ≤ cap ∧ Kd.C d W a l.length l ∧ wf l := by
  obtain ⟨fuel, hf⟩ := h
  obtain ⟨l, ⟨A, c, hcs, hl, hC⟩, hw⟩ := ho.out hf
  simp [Value.cells] at hcs
  obtain ⟨rfl, rfl, rfl⟩ := hcs
  exact ⟨l, rfl, hl, hC, hw⟩
end Go.Proofs.Ytpdggpfobbkdnaa.Open
end
