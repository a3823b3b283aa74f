/-
  slices.SortFunc over blocks: what the library's own summary says, as a contract over abstract states.
-/
import Derived.Test.YtlnlopeodpamdaaLawHBlocks
import Derived.Shelf.SlSortCmp.WholeK
import Derived.Shelf.SlicesG.Cmp
set_option maxRecDepth 100000
set_option linter.unusedVariables false
namespace Go.Proofs.Ytlnlopeodpamdaa.Hx
open Go AH Go.Proofs
noncomputable section
def Hs.sortIv_ren : Go.Shelf.Ren := ⟨fun | 6 => 102 | 15 => 126 | 14 => 125 | 28 => 138 | 29 => 139 | 20 => 130 | 21 => 131 | 22 => 132 | 23 => 133 | 24 => 134 | 25 => 135 | 26 => 136 | 27 => 137 | 46 => 141 | 47 => 142 | 48 => 143 | 49 => 144 | 50 => 145 | 57 => 146 | n => n, fun | 22 => 68 | 24 => 74 | 25 => 134 | 3 => 3 | 39 => 110 | 0 => 0 | 53 => 178 | 55 => 89 | 4 => 4 | 46 => 172 | 45 => 171 | 50 => 128 | 5 => 5 | 9 => 9 | 66 => 180 | 70 => 184 | 76 => 186 | 77 => 187 | n => n, fun | n => n⟩
theorem Hs.sortIv : Go.Proofs.SlLaysF0.n6 Try.prog Hs.sortIv_ren := {
  mixed := by kernel_rfl
  f6 := ⟨Try.f102.name, by decide, Try.func102.trans (congrArg some (by kernel_rfl))⟩
  f14 := ⟨Try.f125.name, by decide, Try.func125.trans (congrArg some (by kernel_rfl))⟩
  f15 := Try.func126.trans (congrArg some (by kernel_rfl))
  f20 := ⟨Try.f130.name, by decide, Try.func130.trans (congrArg some (by kernel_rfl))⟩
  f21 := ⟨Try.f131.name, by decide, Try.func131.trans (congrArg some (by kernel_rfl))⟩
  f22 := ⟨Try.f132.name, by decide, Try.func132.trans (congrArg some (by kernel_rfl))⟩
  f23 := ⟨Try.f133.name, by decide, Try.func133.trans (congrArg some (by kernel_rfl))⟩
  f24 := ⟨Try.f134.name, by decide, Try.func134.trans (congrArg some (by kernel_rfl))⟩
  f25 := ⟨Try.f135.name, by decide, Try.func135.trans (congrArg some (by kernel_rfl))⟩
  f26 := ⟨Try.f136.name, by decide, Try.func136.trans (congrArg some (by kernel_rfl))⟩
  f27 := ⟨Try.f137.name, by decide, Try.func137.trans (congrArg some (by kernel_rfl))⟩
  f28 := Try.func138.trans (congrArg some (by kernel_rfl))
  f29 := Try.func139.trans (congrArg some (by kernel_rfl))
  f46 := ⟨Try.f141.name, by decide, Try.func141.trans (congrArg some (by kernel_rfl))⟩
  f47 := Try.func142.trans (congrArg some (by kernel_rfl))
  f48 := Try.func143.trans (congrArg some (by kernel_rfl))
  f49 := ⟨Try.f144.name, by decide, Try.func144.trans (congrArg some (by kernel_rfl))⟩
  f50 := ⟨Try.f145.name, by decide, Try.func145.trans (congrArg some (by kernel_rfl))⟩
  f57 := ⟨Try.f146.name, by decide, Try.func146.trans (congrArg some (by kernel_rfl))⟩
  t0 := Try.underlying0
  a0 := Try.isAgg0
  z0 := Try.sizeOf0
  v0 := Try.zeroValue0
  t3 := Try.underlying3
  a3 := Try.isAgg3
  z3 := Try.sizeOf3
  v3 := Try.zeroValue3
  t4 := Try.underlying4
  a4 := Try.isAgg4
  z4 := Try.sizeOf4
  v4 := Try.zeroValue4
  t5 := Try.underlying5
  a5 := Try.isAgg5
  z5 := Try.sizeOf5
  v5 := Try.zeroValue5
  t9 := Try.underlying9
  a9 := Try.isAgg9
  z9 := Try.sizeOf9
  v9 := Try.zeroValue9
  t22 := Try.underlying68
  a22 := Try.isAgg68
  z22 := Try.sizeOf68
  v22 := Try.zeroValue68
  t25 := Try.underlying134
  a25 := Try.isAgg134
  z25 := Try.sizeOf134
  v25 := Try.zeroValue134
  t39 := Try.underlying110
  a39 := Try.isAgg110
  z39 := Try.sizeOf110
  v39 := Try.zeroValue110
  t45 := Try.underlying171
  a45 := Try.isAgg171
  z45 := Try.sizeOf171
  v45 := Try.zeroValue171
  t46 := Try.underlying172
  a46 := Try.isAgg172
  z46 := Try.sizeOf172
  v46 := Try.zeroValue172
  t50 := Try.underlying128
  a50 := Try.isAgg128
  z50 := Try.sizeOf128
  v50 := Try.zeroValue128
  t53 := Try.underlying178
  a53 := Try.isAgg178
  z53 := Try.sizeOf178
  v53 := Try.zeroValue178
  t55 := Try.underlying89
  a55 := Try.isAgg89
  z55 := Try.sizeOf89
  v55 := Try.zeroValue89
  t66 := Try.underlying180
  a66 := Try.isAgg180
  z66 := Try.sizeOf180
  v66 := Try.zeroValue180
  t70 := Try.underlying184
  a70 := Try.isAgg184
  z70 := Try.sizeOf184
  v70 := Try.zeroValue184
  t76 := Try.underlying186
  a76 := Try.isAgg186
  z76 := Try.sizeOf186
  v76 := Try.zeroValue186
  t77 := Try.underlying187
  a77 := Try.isAgg187
  z77 := Try.sizeOf187
  v77 := Try.zeroValue187 }
def Hs.cmpInt_ren : Go.Shelf.Ren := ⟨fun | 5 => 79 | 7 => 104 | n => n, fun | 22 => 3 | 3 => 3 | 4 => 4 | n => n, fun | n => n⟩
theorem Hs.cmpInt : Go.Proofs.SlLaysC2.n5 Try.prog Hs.cmpInt_ren := {
  mixed := by kernel_rfl
  f5 := ⟨Try.f79.name, by decide, Try.func79.trans (congrArg some (by kernel_rfl))⟩
  f7 := ⟨Try.f104.name, by decide, Try.func104.trans (congrArg some (by kernel_rfl))⟩
  t3 := Try.underlying3
  a3 := Try.isAgg3
  z3 := Try.sizeOf3
  v3 := Try.zeroValue3
  t4 := Try.underlying4
  a4 := Try.isAgg4
  z4 := Try.sizeOf4
  v4 := Try.zeroValue4
  t22 := Try.underlying3
  a22 := Try.isAgg3
  z22 := Try.sizeOf3
  v22 := Try.zeroValue3 }

/-- A block: where, how long, how often, whether taken. -/
abbrev BV := Int × Int × Int × Bool
def encB (x : BV) : List Value := blkC x.1 x.2.1 x.2.2.1 x.2.2.2
def encs (l : List BV) : List Value := l.flatMap encB
def byAt (x y : BV) : Int := Lib.compareInt x.1 y.1

theorem lt_byAt (x y : BV) : ltOf byAt x y = decide (x.1 < y.1) := by
  unfold ltOf byAt Lib.compareInt
  by_cases h1 : x.1 < y.1
  · simp [h1]
  · by_cases h2 : y.1 < x.1 <;> simp [h1, h2]
theorem swo_byAt : Sort.SWO (ltOf byAt) where
  irrefl x := by rw [lt_byAt]; simp
  trans x y z h1 h2 := by rw [lt_byAt] at *; simp at *; omega
  ntrans x y z h1 h2 := by rw [lt_byAt] at *; simp at *; omega

set_option maxHeartbeats 1000000 in
theorem closure78 (x y : BV) (W : World) : Calls Try.prog 78 #[.agg (encB x).toArray, .agg (encB y).toArray] W fun e w' => e = .returned (.int .i64 (byAt x y)) ∧ ∃ q os', w' = Sort.grow (W.drewN q) os' := by
  have hcon := fun W' => AnyG.cmp_Compare_int Hs.cmpInt x.1 y.1 W'
  change ∀ W', Calls Try.prog 79 _ _ _ at hcon
  unfold byAt encB blkC
  generalize Lib.compareInt x.1 y.1 = r at hcon ⊢
  go_enter Try.func78, Try.ntmps78
  go_wp2_with (go_at_call 79; refine (hcon _).mono ?_; rintro e w' ⟨rfl, rfl⟩)
  go_ret
  exact ⟨rfl, 0, _, by rw [Sort.alloc_eq_grow, Sort.alloc_eq_grow, Sort.grow_grow]; rfl⟩

theorem encs_length (l : List BV) : (encs l).length = l.length * 4 := by
  induction l with
  | nil => rfl
  | cons x r ih =>
    have : (encs (x :: r)) = encB x ++ encs r := rfl
    rw [this, List.length_append, ih]
    simp [encB, blkC]
    omega
theorem encs_get (l : List BV) (t : Nat) (h : t < l.length * 4) : (encs l)[t]! = (encB l[t / 4]!)[t % 4]! := by
  induction l generalizing t with
  | nil => simp at h
  | cons x r ih =>
    have e : (encs (x :: r)) = encB x ++ encs r := rfl
    have hx : (encB x).length = 4 := rfl
    by_cases h4 : t < 4
    · have h0 : t / 4 = 0 := by omega
      have h1 : t % 4 = t := by omega
      rw [h0, h1, e]
      simp only [List.getElem!_eq_getElem?_getD, List.getElem?_cons_zero, Option.getD_some]
      rw [List.getElem?_append_left (by omega)]
    · have h0 : t / 4 = (t - 4) / 4 + 1 := by omega
      have h1 : t % 4 = (t - 4) % 4 := by omega
      have := ih (t - 4) (by simp at h; omega)
      rw [h0, h1, e]
      simp only [List.getElem!_eq_getElem?_getD, List.getElem?_cons_succ] at this ⊢
      rw [List.getElem?_append_right (by omega), hx, this]
theorem flat_encs (l : List BV) : Sort.flatK encB 4 l.toArray = (encs l).toArray := by
  refine Sort.ext_get! (by simp [encs_length]) fun t ht => ?_
  have ht' : t < l.length * 4 := by simpa using ht
  rw [Sort.get_flatK _ _ _ _ (by simpa using ht')]
  have := encs_get l t ht'
  simpa using this.symm
theorem encs_closed (l : List BV) (ρ : Nat → AH.Loc) : (encs l).map (ren ρ) = encs l := by
  have := List.map_congr_left (f := ren ρ) (g := id) (l := encs l) fun v hv => by
    obtain ⟨e, he, hv⟩ := List.mem_flatMap.1 hv
    simp [encB, blkC] at hv
    rcases hv with rfl | rfl | rfl | rfl <;> simp
  rw [this, List.map_id]
theorem encs_sc (l : List BV) (n : Nat) : Scs n (encs l) := fun v hv => by
  obtain ⟨e, he, hv⟩ := List.mem_flatMap.1 hv
  simp [encB, blkC] at hv
  rcases hv with rfl | rfl | rfl | rfl <;> first | exact Sc_int _ _ _ | exact Sc_bool _ _

theorem Evo.grow {ρ : Nat → AH.Loc} {σ : St} {w : World} (h : Rel ρ σ w) (os : Array Obj) : Evo ρ σ w ρ σ (Sort.grow w os) := by
  obtain ⟨l⟩ := os
  induction l generalizing w with
  | nil => rw [Sort.grow_empty]; exact Evo.refl h
  | cons o r ih =>
    have e1 := Evo.more h o
    have e2 := ih e1.rel
    have : Sort.grow (w.alloc o) ⟨r⟩ = Sort.grow w ⟨o :: r⟩ := by
      rw [Sort.alloc_eq_grow, Sort.grow_grow]
      congr 1
      apply Array.ext'
      simp
    rw [this] at e2
    exact e1.trans e2

theorem sorted_unique_perm {l l' : List BV} (h : l'.Perm l) : l'.length = l.length := h.length_eq

/-- slices.SortFunc by where blocks begin. -/
theorem sortFunc (σ : St) (i : Nat) (l : List BV) (c : Nat) (hi : σ.get i = .row 74 4 (encs l)) (hl : l.length < 4611686018427387904) :
    WF M.toEnv 102 [.slice (some ⟨i, 0, none⟩) l.length c, .func (.func 78) #[] #[]] σ (fun r σ' => r = .tuple #[] ∧ ∃ l' : List BV, l'.Perm l ∧ l'.Pairwise (fun x y => x.1 ≤ y.1) ∧ σ' = σ.set i (.row 74 4 (encs l'))) := by
  refine ⟨⟨Try.f102, Try.func102, rfl, rfl⟩, fun ρ w hR hs => ?_⟩
  have hb := hR.blk i
  rw [hi] at hb
  obtain ⟨ho, fz, ex, hfz, hlen, hheap⟩ := hb
  have hblk : (ρ i).b < w.heap.size := heap_lt hheap
  rw [encs_closed] at hheap
  have hcs : (encs l).length ≤ (ρ i).C * 4 := by omega
  have hH : Sort.HoldsK encB 4 w (ρ i).b 0 l.toArray := by
    unfold Sort.HoldsK
    rw [flat_encs]
    intro j hj
    have hj' : j < (encs l).length := by simpa using hj
    refine ⟨?_, frozen_false hheap hfz (by omega)⟩
    simp only [World.cell?, hheap]
    simp [hj', List.getElem?_append_left hj']
  have eg : ∀ args w, (callFunc 78 args).run Try.prog w = .ok (.enter 78 args) w := enters_of Try.func78 (by kernel_rfl) rfl
  have hcon := AnyQ.slices_SortFunc Hs.sortIv 4 Try.isAgg74 Try.sizeOf74 encB (fun _ => rfl) (fun x v hv => by simp [encB, blkC] at hv; rcases hv with rfl | rfl | rfl | rfl <;> rfl) byAt swo_byAt 78 #[] (ρ i).b 0 (renC (ρ i).C c) l.toArray w eg (fun _ _ _ _ x y => closure78 x y _) hH hblk (by simpa using hl)
  change Calls Try.prog 102 _ _ _ at hcon
  have hargs : (([.slice (some ⟨i, 0, none⟩) l.length c, .func (.func 78) #[] #[]] : List Value).map (ren ρ)).toArray = #[.slice (some ⟨(ρ i).b, 0, none⟩) l.toArray.size (renC (ρ i).C c), .func (.func 78) #[] #[]] := by
    simp [renA, renFn, ho]
  rw [hargs]
  refine hcon.mono fun e w' ⟨he, d', n, os, hperm, hsort, hw⟩ => ?_
  subst hw
  obtain ⟨l'⟩ := d'
  have hsz : l'.length = l.length := by have := hperm.1; simpa using this
  have hp : l'.Perm l := by
    have := hperm.2.2
    simp at this
    rwa [← hsz, List.take_length] at this
  have hso : l'.Pairwise (fun x y => x.1 ≤ y.1) := by
    rw [List.pairwise_iff_getElem]
    intro a b ha hb hab
    have := hsort a b (Nat.zero_le _) hab (by simpa [hsz] using hb)
    rw [lt_byAt] at this
    have h1 : (⟨l'⟩ : Array BV)[a]! = l'[a] := by simp [ha]
    have h2 : (⟨l'⟩ : Array BV)[b]! = l'[b] := by simp [hb]
    rw [h1, h2] at this
    simp at this
    omega
  have hput : (Sort.putRowK encB 4 (Sort.ahead w n) (ρ i).b 0 ⟨l'⟩).heap[(ρ i).b]? = some (.cells (encs l' ++ ex).toArray 74 fz) := by
    unfold Sort.putRowK Sort.putRow Sort.mapBlock
    show (w.heap.modify (ρ i).b _)[(ρ i).b]? = _
    rw [Array.getElem?_modify, if_pos rfl, hheap]
    show some (Sort.onCells _ _) = _
    unfold Sort.onCells
    have hflat : Sort.flatK encB 4 ⟨l'⟩ = (encs l').toArray := flat_encs l'
    rw [hflat]
    simp only [Option.some.injEq, Obj.cells.injEq, and_true]
    have hl1 := encs_length l
    have hl2 := encs_length l'
    unfold Sort.putCells
    apply Array.ext_getElem?
    intro k
    simp only [Array.getElem?_mapIdx, List.getElem?_toArray, List.size_toArray, Nat.zero_add, Nat.sub_zero, Nat.zero_le, true_and, id]
    by_cases hk : k < (encs l').length
    · have hk' : k < (encs l).length := by omega
      rw [List.getElem?_append_left hk', List.getElem?_append_left hk, List.getElem?_eq_getElem hk']
      simp [hk]
    · rw [List.getElem?_append_right (by omega), List.getElem?_append_right (by omega)]
      have : (encs l).length = (encs l').length := by omega
      rw [this]
      cases ex[k - (encs l').length]? with
      | none => rfl
      | some v => simp [hk]
  have ev1 : Evo ρ σ w ρ (σ.set i (.row 74 4 (encs l'))) (Sort.putRowK encB 4 (Sort.ahead w n) (ρ i).b 0 ⟨l'⟩) := by
    refine Evo.write hR (i := i) (by rw [hi]; rfl) ⟨by simp [Sort.putRowK, Sort.putRow, Sort.mapBlock, Sort.ahead], rfl, rfl, rfl, fun j hj => ?_⟩ ⟨ho, fz, ex, hfz, ?_, ?_⟩ (encs_sc _ _)
    · show (w.heap.modify (ρ i).b _)[j]? = _
      rw [Array.getElem?_modify, if_neg (Ne.symm hj)]
    · rw [encs_length, hsz, ← encs_length]; exact hlen
    · rw [encs_closed]; exact hput
  refine ⟨.tuple #[], he, .tuple #[], _, ρ, by simp, ev1.trans (Evo.grow ev1.rel os), Sc_tuple.2 (fun v hv => by simp at hv), rfl, l', hp, hso, rfl⟩
end
end Go.Proofs.Ytlnlopeodpamdaa.Hx
