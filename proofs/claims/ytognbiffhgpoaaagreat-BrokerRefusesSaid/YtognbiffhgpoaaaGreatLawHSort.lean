/-
  slices.SortFunc over blocks: what the library's own summary says, as a contract over abstract states.
-/
import Derived.Test.YtognbiffhgpoaaaGreatLawHBlocks
import Derived.Shelf.SlSortCmp.WholeK
import Derived.Shelf.SlicesG.Cmp
set_option maxRecDepth 100000
set_option linter.unusedVariables false
namespace Go.Proofs.YtognbiffhgpoaaaGreat.Hx
open Go AH Go.Proofs
noncomputable section
def Hs.sortIv_ren : Go.Shelf.Ren := ⟨fun | 6 => 120 | 15 => 125 | 14 => 124 | 28 => 134 | 29 => 135 | 20 => 126 | 21 => 127 | 22 => 128 | 23 => 129 | 24 => 130 | 25 => 131 | 26 => 132 | 27 => 133 | 46 => 136 | 47 => 137 | 48 => 138 | 49 => 139 | 50 => 140 | 57 => 141 | n => n, fun | 22 => 109 | 24 => 156 | 25 => 173 | 3 => 3 | 39 => 166 | 0 => 0 | 53 => 188 | 55 => 22 | 4 => 4 | 46 => 182 | 45 => 181 | 50 => 159 | 5 => 5 | 9 => 9 | 66 => 189 | 70 => 193 | 76 => 195 | 77 => 196 | n => n, fun | n => n⟩
theorem Hs.sortIv : Go.Proofs.SlLaysF0.n6 Tryz.prog Hs.sortIv_ren := {
  mixed := by kernel_rfl
  f6 := ⟨Tryz.f120.name, by decide, Tryz.func120.trans (congrArg some (by kernel_rfl))⟩
  f14 := ⟨Tryz.f124.name, by decide, Tryz.func124.trans (congrArg some (by kernel_rfl))⟩
  f15 := Tryz.func125.trans (congrArg some (by kernel_rfl))
  f20 := ⟨Tryz.f126.name, by decide, Tryz.func126.trans (congrArg some (by kernel_rfl))⟩
  f21 := ⟨Tryz.f127.name, by decide, Tryz.func127.trans (congrArg some (by kernel_rfl))⟩
  f22 := ⟨Tryz.f128.name, by decide, Tryz.func128.trans (congrArg some (by kernel_rfl))⟩
  f23 := ⟨Tryz.f129.name, by decide, Tryz.func129.trans (congrArg some (by kernel_rfl))⟩
  f24 := ⟨Tryz.f130.name, by decide, Tryz.func130.trans (congrArg some (by kernel_rfl))⟩
  f25 := ⟨Tryz.f131.name, by decide, Tryz.func131.trans (congrArg some (by kernel_rfl))⟩
  f26 := ⟨Tryz.f132.name, by decide, Tryz.func132.trans (congrArg some (by kernel_rfl))⟩
  f27 := ⟨Tryz.f133.name, by decide, Tryz.func133.trans (congrArg some (by kernel_rfl))⟩
  f28 := Tryz.func134.trans (congrArg some (by kernel_rfl))
  f29 := Tryz.func135.trans (congrArg some (by kernel_rfl))
  f46 := ⟨Tryz.f136.name, by decide, Tryz.func136.trans (congrArg some (by kernel_rfl))⟩
  f47 := Tryz.func137.trans (congrArg some (by kernel_rfl))
  f48 := Tryz.func138.trans (congrArg some (by kernel_rfl))
  f49 := ⟨Tryz.f139.name, by decide, Tryz.func139.trans (congrArg some (by kernel_rfl))⟩
  f50 := ⟨Tryz.f140.name, by decide, Tryz.func140.trans (congrArg some (by kernel_rfl))⟩
  f57 := ⟨Tryz.f141.name, by decide, Tryz.func141.trans (congrArg some (by kernel_rfl))⟩
  t0 := Tryz.underlying0
  a0 := Tryz.isAgg0
  z0 := Tryz.sizeOf0
  v0 := Tryz.zeroValue0
  t3 := Tryz.underlying3
  a3 := Tryz.isAgg3
  z3 := Tryz.sizeOf3
  v3 := Tryz.zeroValue3
  t4 := Tryz.underlying4
  a4 := Tryz.isAgg4
  z4 := Tryz.sizeOf4
  v4 := Tryz.zeroValue4
  t5 := Tryz.underlying5
  a5 := Tryz.isAgg5
  z5 := Tryz.sizeOf5
  v5 := Tryz.zeroValue5
  t9 := Tryz.underlying9
  a9 := Tryz.isAgg9
  z9 := Tryz.sizeOf9
  v9 := Tryz.zeroValue9
  t22 := Tryz.underlying109
  a22 := Tryz.isAgg109
  z22 := Tryz.sizeOf109
  v22 := Tryz.zeroValue109
  t25 := Tryz.underlying173
  a25 := Tryz.isAgg173
  z25 := Tryz.sizeOf173
  v25 := Tryz.zeroValue173
  t39 := Tryz.underlying166
  a39 := Tryz.isAgg166
  z39 := Tryz.sizeOf166
  v39 := Tryz.zeroValue166
  t45 := Tryz.underlying181
  a45 := Tryz.isAgg181
  z45 := Tryz.sizeOf181
  v45 := Tryz.zeroValue181
  t46 := Tryz.underlying182
  a46 := Tryz.isAgg182
  z46 := Tryz.sizeOf182
  v46 := Tryz.zeroValue182
  t50 := Tryz.underlying159
  a50 := Tryz.isAgg159
  z50 := Tryz.sizeOf159
  v50 := Tryz.zeroValue159
  t53 := Tryz.underlying188
  a53 := Tryz.isAgg188
  z53 := Tryz.sizeOf188
  v53 := Tryz.zeroValue188
  t55 := Tryz.underlying22
  a55 := Tryz.isAgg22
  z55 := Tryz.sizeOf22
  v55 := Tryz.zeroValue22
  t66 := Tryz.underlying189
  a66 := Tryz.isAgg189
  z66 := Tryz.sizeOf189
  v66 := Tryz.zeroValue189
  t70 := Tryz.underlying193
  a70 := Tryz.isAgg193
  z70 := Tryz.sizeOf193
  v70 := Tryz.zeroValue193
  t76 := Tryz.underlying195
  a76 := Tryz.isAgg195
  z76 := Tryz.sizeOf195
  v76 := Tryz.zeroValue195
  t77 := Tryz.underlying196
  a77 := Tryz.isAgg196
  z77 := Tryz.sizeOf196
  v77 := Tryz.zeroValue196 }
def Hs.cmpInt_ren : Go.Shelf.Ren := ⟨fun | 5 => 118 | 7 => 122 | n => n, fun | 22 => 3 | 3 => 3 | 4 => 4 | n => n, fun | n => n⟩
theorem Hs.cmpInt : Go.Proofs.SlLaysC2.n5 Tryz.prog Hs.cmpInt_ren := {
  mixed := by kernel_rfl
  f5 := ⟨Tryz.f118.name, by decide, Tryz.func118.trans (congrArg some (by kernel_rfl))⟩
  f7 := ⟨Tryz.f122.name, by decide, Tryz.func122.trans (congrArg some (by kernel_rfl))⟩
  t3 := Tryz.underlying3
  a3 := Tryz.isAgg3
  z3 := Tryz.sizeOf3
  v3 := Tryz.zeroValue3
  t4 := Tryz.underlying4
  a4 := Tryz.isAgg4
  z4 := Tryz.sizeOf4
  v4 := Tryz.zeroValue4
  t22 := Tryz.underlying3
  a22 := Tryz.isAgg3
  z22 := Tryz.sizeOf3
  v22 := Tryz.zeroValue3 }
/-- A block: where, how long, how often, whether taken. -/
abbrev BV := Int × Int × Int × Bool
def encB (x : BV) : List Value := blkC x.1 x.2.1 x.2.2.1 x.2.2.2
def encs (l : List BV) : List Value := l.flatMap encB
def byAt (x y : BV) : Int := Lib.compareInt x.1 y.1

theorem lt_byAt (x y : BV) : ltOf byAt x y = decide (x.1 < y.1) := by
  unfold ltOf byAt Lib.compareInt
  by_cases h1 : x.1 < y.1
  · simp [h1]
  · by_cases h2 : y.1 < x.1 <;> simp [h1, h2]
theorem swo_byAt : Sort.SWO (ltOf byAt) where
  irrefl x := by rw [lt_byAt]; simp
  trans x y z h1 h2 := by rw [lt_byAt] at *; simp at *; omega
  ntrans x y z h1 h2 := by rw [lt_byAt] at *; simp at *; omega

set_option maxHeartbeats 1000000 in
theorem closure78 (x y : BV) (W : World) : Calls Tryz.prog 117 #[.agg (encB x).toArray, .agg (encB y).toArray] W fun e w' => e = .returned (.int .i64 (byAt x y)) ∧ ∃ q os', w' = Sort.grow (W.drewN q) os' := by
  have hcon := fun W' => AnyG.cmp_Compare_int Hs.cmpInt x.1 y.1 W'
  change ∀ W', Calls Tryz.prog 118 _ _ _ at hcon
  unfold byAt encB blkC
  generalize Lib.compareInt x.1 y.1 = r at hcon ⊢
  go_enter Tryz.func117, Tryz.ntmps117
  go_wp2_with (go_at_call 118; refine (hcon _).mono ?_; rintro e w' ⟨rfl, rfl⟩)
  go_ret
  exact ⟨rfl, 0, _, by rw [Sort.alloc_eq_grow, Sort.alloc_eq_grow, Sort.grow_grow]; rfl⟩

theorem encs_length (l : List BV) : (encs l).length = l.length * 4 := by
  induction l with
  | nil => rfl
  | cons x r ih =>
    have : (encs (x :: r)) = encB x ++ encs r := rfl
    rw [this, List.length_append, ih]
    simp [encB, blkC]
    omega
theorem encs_get (l : List BV) (t : Nat) (h : t < l.length * 4) : (encs l)[t]! = (encB l[t / 4]!)[t % 4]! := by
  induction l generalizing t with
  | nil => simp at h
  | cons x r ih =>
    have e : (encs (x :: r)) = encB x ++ encs r := rfl
    have hx : (encB x).length = 4 := rfl
    by_cases h4 : t < 4
    · have h0 : t / 4 = 0 := by omega
      have h1 : t % 4 = t := by omega
      rw [h0, h1, e]
      simp only [List.getElem!_eq_getElem?_getD, List.getElem?_cons_zero, Option.getD_some]
      rw [List.getElem?_append_left (by omega)]
    · have h0 : t / 4 = (t - 4) / 4 + 1 := by omega
      have h1 : t % 4 = (t - 4) % 4 := by omega
      have := ih (t - 4) (by simp at h; omega)
      rw [h0, h1, e]
      simp only [List.getElem!_eq_getElem?_getD, List.getElem?_cons_succ] at this ⊢
      rw [List.getElem?_append_right (by omega), hx, this]
theorem flat_encs (l : List BV) : Sort.flatK encB 4 l.toArray = (encs l).toArray := by
  refine Sort.ext_get! (by simp [encs_length]) fun t ht => ?_
  have ht' : t < l.length * 4 := by simpa using ht
  rw [Sort.get_flatK _ _ _ _ (by simpa using ht')]
  have := encs_get l t ht'
  simpa using this.symm
theorem encs_closed (l : List BV) (ρ : Nat → AH.Loc) : (encs l).map (ren ρ) = encs l := by
  have := List.map_congr_left (f := ren ρ) (g := id) (l := encs l) fun v hv => by
    obtain ⟨e, he, hv⟩ := List.mem_flatMap.1 hv
    simp [encB, blkC] at hv
    rcases hv with rfl | rfl | rfl | rfl <;> simp
  rw [this, List.map_id]
theorem encs_sc (l : List BV) (n : Nat) : Scs n (encs l) := fun v hv => by
  obtain ⟨e, he, hv⟩ := List.mem_flatMap.1 hv
  simp [encB, blkC] at hv
  rcases hv with rfl | rfl | rfl | rfl <;> first | exact Sc_int _ _ _ | exact Sc_bool _ _

theorem Evo.grow {ρ : Nat → AH.Loc} {σ : St} {w : World} (h : Rel ρ σ w) (os : Array Obj) : Evo ρ σ w ρ σ (Sort.grow w os) := by
  obtain ⟨l⟩ := os
  induction l generalizing w with
  | nil => rw [Sort.grow_empty]; exact Evo.refl h
  | cons o r ih =>
    have e1 := Evo.more h o
    have e2 := ih e1.rel
    have : Sort.grow (w.alloc o) ⟨r⟩ = Sort.grow w ⟨o :: r⟩ := by
      rw [Sort.alloc_eq_grow, Sort.grow_grow]
      congr 1
      apply Array.ext'
      simp
    rw [this] at e2
    exact e1.trans e2

theorem sorted_unique_perm {l l' : List BV} (h : l'.Perm l) : l'.length = l.length := h.length_eq

/-- slices.SortFunc by where blocks begin. -/
theorem sortFunc (σ : St) (i : Nat) (l : List BV) (c : Nat) (hi : σ.get i = .row 156 4 (encs l)) (hl : l.length < 4611686018427387904) :
    WF M.toEnv 120 [.slice (some ⟨i, 0, none⟩) l.length c, .func (.func 117) #[] #[]] σ (fun r σ' => r = .tuple #[] ∧ ∃ l' : List BV, l'.Perm l ∧ l'.Pairwise (fun x y => x.1 ≤ y.1) ∧ σ' = σ.set i (.row 156 4 (encs l'))) := by
  refine ⟨⟨Tryz.f120, Tryz.func120, rfl, rfl⟩, fun ρ w hR hs => ?_⟩
  have hb := hR.blk i
  rw [hi] at hb
  obtain ⟨ho, fz, ex, hfz, hlen, hheap⟩ := hb
  have hblk : (ρ i).b < w.heap.size := heap_lt hheap
  rw [encs_closed] at hheap
  have hcs : (encs l).length ≤ (ρ i).C * 4 := by omega
  have hH : Sort.HoldsK encB 4 w (ρ i).b 0 l.toArray := by
    unfold Sort.HoldsK
    rw [flat_encs]
    intro j hj
    have hj' : j < (encs l).length := by simpa using hj
    refine ⟨?_, frozen_false hheap hfz (by omega)⟩
    simp only [World.cell?, hheap]
    simp [hj', List.getElem?_append_left hj']
  have eg : ∀ args w, (callFunc 117 args).run Tryz.prog w = .ok (.enter 117 args) w := enters_of Tryz.func117 (by kernel_rfl) rfl
  have hcon := AnyQ.slices_SortFunc Hs.sortIv 4 Tryz.isAgg156 Tryz.sizeOf156 encB (fun _ => rfl) (fun x v hv => by simp [encB, blkC] at hv; rcases hv with rfl | rfl | rfl | rfl <;> rfl) byAt swo_byAt 117 #[] (ρ i).b 0 (renC (ρ i).C c) l.toArray w eg (fun _ _ _ _ x y => closure78 x y _) hH hblk (by simpa using hl)
  change Calls Tryz.prog 120 _ _ _ at hcon
  have hargs : (([.slice (some ⟨i, 0, none⟩) l.length c, .func (.func 117) #[] #[]] : List Value).map (ren ρ)).toArray = #[.slice (some ⟨(ρ i).b, 0, none⟩) l.toArray.size (renC (ρ i).C c), .func (.func 117) #[] #[]] := by
    simp [renA, renFn, ho]
  rw [hargs]
  refine hcon.mono fun e w' ⟨he, d', n, os, hperm, hsort, hw⟩ => ?_
  subst hw
  obtain ⟨l'⟩ := d'
  have hsz : l'.length = l.length := by have := hperm.1; simpa using this
  have hp : l'.Perm l := by
    have := hperm.2.2
    simp at this
    rwa [← hsz, List.take_length] at this
  have hso : l'.Pairwise (fun x y => x.1 ≤ y.1) := by
    rw [List.pairwise_iff_getElem]
    intro a b ha hb hab
    have := hsort a b (Nat.zero_le _) hab (by simpa [hsz] using hb)
    rw [lt_byAt] at this
    have h1 : (⟨l'⟩ : Array BV)[a]! = l'[a] := by simp [ha]
    have h2 : (⟨l'⟩ : Array BV)[b]! = l'[b] := by simp [hb]
    rw [h1, h2] at this
    simp at this
    omega
  have hput : (Sort.putRowK encB 4 (Sort.ahead w n) (ρ i).b 0 ⟨l'⟩).heap[(ρ i).b]? = some (.cells (encs l' ++ ex).toArray 156 fz) := by
    unfold Sort.putRowK Sort.putRow Sort.mapBlock
    show (w.heap.modify (ρ i).b _)[(ρ i).b]? = _
    rw [Array.getElem?_modify, if_pos rfl, hheap]
    show some (Sort.onCells _ _) = _
    unfold Sort.onCells
    have hflat : Sort.flatK encB 4 ⟨l'⟩ = (encs l').toArray := flat_encs l'
    rw [hflat]
    simp only [Option.some.injEq, Obj.cells.injEq, and_true]
    have hl1 := encs_length l
    have hl2 := encs_length l'
    unfold Sort.putCells
    apply Array.ext_getElem?
    intro k
    simp only [Array.getElem?_mapIdx, List.getElem?_toArray, List.size_toArray, Nat.zero_add, Nat.sub_zero, Nat.zero_le, true_and, id]
    by_cases hk : k < (encs l').length
    · have hk' : k < (encs l).length := by omega
      rw [List.getElem?_append_left hk', List.getElem?_append_left hk, List.getElem?_eq_getElem hk']
      simp [hk]
    · rw [List.getElem?_append_right (by omega), List.getElem?_append_right (by omega)]
      have : (encs l).length = (encs l').length := by omega
      rw [this]
      cases ex[k - (encs l').length]? with
      | none => rfl
      | some v => simp [hk]
  have ev1 : Evo ρ σ w ρ (σ.set i (.row 156 4 (encs l'))) (Sort.putRowK encB 4 (Sort.ahead w n) (ρ i).b 0 ⟨l'⟩) := by
    refine Evo.write hR (i := i) (by rw [hi]; rfl) ⟨by simp [Sort.putRowK, Sort.putRow, Sort.mapBlock, Sort.ahead], rfl, rfl, rfl, fun j hj => ?_⟩ ⟨ho, fz, ex, hfz, ?_, ?_⟩ (encs_sc _ _)
    · show (w.heap.modify (ρ i).b _)[j]? = _
      rw [Array.getElem?_modify, if_neg (Ne.symm hj)]
    · rw [encs_length, hsz, ← encs_length]; exact hlen
    · rw [encs_closed]; exact hput
  refine ⟨.tuple #[], he, .tuple #[], _, ρ, by simp, ev1.trans (Evo.grow ev1.rel os), Sc_tuple.2 (fun v hv => by simp at hv), rfl, l', hp, hso, rfl⟩
end
end Go.Proofs.YtognbiffhgpoaaaGreat.Hx
