import Derived.Test.YtlnlopeodpamdaaLawHApart11
import Derived.ChangeSlices
/-
  A slice of structs of three integers, as it is handed in.
-/
namespace Go.Proofs.Ytlnlopeodpamdaa
open Go.ChangeShapes Go.WideShapes Go.ChangeAt Go.RowKit

section
variable {H : Type} {enc : TypeId × Value → H} {P : Program} {w : World} {base : Nat} {spare : Nat → Bool} {held : Bool}
theorem open_rows3 {t e i : TypeId} {f0 f1 f2 : Field} {fuel : Nat} {cs : List Value} {x : DataW H × List MemPlace} (ht : P.underlying t = some (.slice e)) (he : P.underlying e = some (.struct #[f0, f1, f2])) (hi : P.underlying i = some (.int .i64)) (hc : P.cellsOf e = 3) (hci : P.cellsOf i = 1)
    (h0 : f0.type = i ∧ f0.offset = 0) (h1 : f1.type = i ∧ f1.offset = 1) (h2 : f2.type = i ∧ f2.offset = 2)
    (h : DataW.trod enc P w base spare held fuel t cs = some x) :
    cs = [.slice none 0 0] ∨ ∃ (a : Addr) (len cap : Nat), cs = [.slice (some a) len cap] ∧ len ≤ cap ∧ cap ≤ maxLen ∧ ∀ j, j < len * 3 → ∃ z : Int, w.cell? (a.add j) = some (.int .i64 z) := by
  rcases DataW.trod_slice ht h with ⟨h0, _⟩ | ⟨a, len, cap, elems, rest, n, _, rfl, _, hb, hl, hm, hlen, hel, _⟩
  · exact .inl h0
  · right
    refine ⟨a, len, cap, rfl, hl, hm, fun j hj => ?_⟩
    have hq : j / 3 < len := by omega
    have hv := hel (j / 3) hq
    rw [List.getElem?_eq_getElem (by rw [hlen]; exact hq), hc, Option.bind_eq_some_iff] at hv
    obtain ⟨cs', hcs, htr⟩ := hv
    obtain ⟨_, hl3, hcell⟩ := World.cells?_some hcs
    obtain ⟨xs, n', _, _, _, hxl, hf⟩ := DataW.trod_struct he htr
    have hadd : (a.add (j / 3 * 3)).add (j % 3) = a.add j := by
      have e : j / 3 * 3 + j % 3 = j := by omega
      generalize j / 3 * 3 = u at e ⊢
      generalize j % 3 = v at e ⊢
      subst e
      unfold Addr.add
      by_cases hu : u = 0
      · subst hu
        by_cases hv : v = 0
        · subst hv; rfl
        · simp [hv]
      · by_cases hv : v = 0
        · subst hv; simp [hu]
        · simp [hu, hv, Nat.add_assoc]
    have hx : ∀ k, k < 3 → ∃ z : Int, cs'[k]? = some (.int .i64 z) := fun k hk => by
      have hf' : ∀ (k : Nat) (f : Field), #[f0, f1, f2][k]? = some f → f.type = i → f.offset = k → k < 3 → ∃ z : Int, cs'[k]? = some (.int .i64 z) := fun k f hfk e1 e2 hk => by
        have := hf k f hfk
        rw [e1, e2, hci, List.getElem?_eq_getElem (by rw [hxl]; exact hk)] at this
        obtain ⟨z, hz, _⟩ := DataW.trod_int hi this
        refine ⟨z, ?_⟩
        have h1 : ((cs'.drop k).take 1)[0]? = some (.int .i64 z) := by rw [hz]; rfl
        rw [List.getElem?_take, if_pos (by omega), List.getElem?_drop] at h1
        exact h1
      have : k = 0 ∨ k = 1 ∨ k = 2 := by omega
      rcases this with rfl | rfl | rfl
      · exact hf' 0 f0 rfl h0.1 h0.2 (by omega)
      · exact hf' 1 f1 rfl h1.1 h1.2 (by omega)
      · exact hf' 2 f2 rfl h2.1 h2.2 (by omega)
    obtain ⟨z, hz⟩ := hx (j % 3) (Nat.mod_lt _ (by omega))
    have hj3 := hcell (j % 3) (Nat.mod_lt _ (by omega))
    rw [hadd] at hj3
    exact ⟨z, by rw [hj3, hz]⟩
end

set_option maxRecDepth 100000 in
theorem ends2 {K : FuncId} {fn : Func} (hK : Hx.M.P.funcs[K]? = some fn) (hname : (fn.name == "runtime.NumGoroutine") = false) (hbody : fn.body = some (AH.bodyC fn)) {W : World} {zs : List Value} {v1 v2 : Value} {args : List Value} {ρ : Nat → AH.Loc} (hv : AH.VB 0 Hx.M K fn.ntmps [.code (AH.bodyC fn)] (AH.initF 0 args .nil) (AH.St.empty.push (.ro zs)) (fun r _ => r = .bool true)) (hl : args.length = 2) (hn : 2 ≤ fn.ntmps)
    (hR : AH.BlkRel ρ (ρ 0) W (.ro zs)) (hz : AH.Scs 1 zs) (hs : AH.Scs 1 args) (he : args.map (AH.ren ρ) = [v1, v2]) : Calls Hx.M.P K #[v1, v2] W (fun e w' => e = .returned (.bool true) ∧ Below W.heap.size W w') := by
  have hget : ∀ i, (AH.St.empty.push (.ro zs)).get i = if 0 = i then .ro zs else .dead := fun i => by
    rw [AH.St.get_push, AH.St.get_empty]; rfl
  have hrel : AH.Rel ρ (AH.St.empty.push (.ro zs)) W := by
    refine ⟨fun i => ?_, fun i => ?_, fun i hi => ?_, fun i j _ hi _ => ?_⟩
    · rw [hget]
      split
      · rename_i e; subst e; exact hR
      · trivial
    · rw [hget]
      split
      · exact hz
      · trivial
    · rw [hget] at hi
      show i < 1
      split at hi
      · omega
      · cases hi
    · rw [hget] at hi
      split at hi <;> cases hi
  have hc := AH.calls_of_VB hK hname hbody (by rw [hl]; exact hn) hv hrel hs (fun i => by rw [hget]; split <;> rfl)
  rw [he] at hc
  refine hc.mono fun e w' ⟨r, ρ', h1, h2, h3⟩ => ⟨?_, h3⟩
  rw [h1, h2, AH.ren_bool]

/-- A law over such a slice and a number. -/
theorem calls3 {K : FuncId} {fn : Func} (hK : Hx.M.P.funcs[K]? = some fn) (hname : (fn.name == "runtime.NumGoroutine") = false) (hbody : fn.body = some (AH.bodyC fn)) (hn : 2 ≤ fn.ntmps) (pi : Nat → Nat) (N n : Nat) (hNn : N < n) (hpi : pi N = 0)
    (hvb : ∀ (zs : List Value), Hx.Ints zs → ∀ len cap : Nat, len * 3 ≤ zs.length → cap ≤ AH.unk → ∀ y : Int, AH.VB 0 Hx.M K fn.ntmps [.code (AH.bodyC fn)] (AH.initF 0 [.slice (some ⟨0, 0, none⟩) len cap, .int .i64 y] .nil) (AH.St.empty.push (.ro zs)) (fun r _ => r = .bool true))
    (hvb0 : ∀ (b0 b : Option Addr) (cap : Nat), AH.ren (AH.loc pi) (.slice b 0 cap) = .slice b0 0 cap → AH.Sc n (.slice b 0 cap) → ∀ y : Int, AH.VB 0 Hx.M K fn.ntmps [.code (AH.bodyC fn)] (AH.initF 0 [.slice b0 0 cap, .int .i64 y] .nil) (AH.St.empty.push (.ro [])) (fun r _ => r = .bool true))
    (W : World) (v : Value) (y : Int) (hv : v = .slice none 0 0 ∨ ∃ (a : Addr) (len cap : Nat), v = .slice (some a) len cap ∧ len ≤ cap ∧ cap ≤ maxLen ∧ ∀ j, j < len * 3 → ∃ z : Int, W.cell? (a.add j) = some (.int .i64 z)) :
    Calls Hx.M.P K #[v, .int .i64 y] W (fun e w' => e = .returned (.bool true) ∧ Below W.heap.size W w') := by
  have hmax : maxLen = 9223372036854775807 := by decide
  rcases hv with rfl | ⟨a, len, cap, rfl, hlc, hcm, hcell⟩
  · refine ends2 hK hname hbody (zs := []) (args := [.slice none 0 0, .int .i64 y]) (ρ := fun _ => ⟨0, 0, 0⟩) (hvb0 none none 0 (by rw [AH.ren_nilslice]) (AH.Sc_nilslice _ _ _) y) rfl hn ⟨fun h => absurd rfl h, fun k v hk => by simp at hk⟩ (fun v hv => by simp at hv) (fun v hv => ?_) (by simp)
    simp only [List.mem_cons, List.not_mem_nil, or_false] at hv
    rcases hv with rfl | rfl
    · exact AH.Sc_nilslice _ _ _
    · exact AH.Sc_int _ _ _
  · by_cases h0 : len = 0
    · subst h0
      refine ends2 hK hname hbody (zs := []) (args := [.slice (some ⟨0, 0, a.spot⟩) 0 cap, .int .i64 y]) (ρ := fun _ => ⟨a.block, a.off, AH.unk⟩) (hvb0 (some ⟨0, 0, a.spot⟩) (some ⟨N, 0, a.spot⟩) cap ?_ (AH.Sc_slice (by show N < n; exact hNn)) y) rfl hn ⟨fun h => absurd rfl h, fun k v hk => by simp at hk⟩ (fun v hv => by simp at hv) (fun v hv => ?_) ?_
      · rw [AH.ren_slice]
        simp only [AH.renA, AH.loc, hpi]
        rw [Hx.renC_le (by unfold AH.unk; omega)]
      · simp only [List.mem_cons, List.not_mem_nil, or_false] at hv
        rcases hv with rfl | rfl
        · exact AH.Sc_slice (by show 0 < 1; omega)
        · exact AH.Sc_int _ _ _
      · simp only [List.map_cons, List.map_nil, AH.ren_slice, AH.renA, AH.ren_int]
        rw [Hx.renC_le (by unfold AH.unk; omega)]
        rfl
    · have hspot : a.spot = none := by
        obtain ⟨z, hz⟩ := hcell 0 (by omega)
        have ea : a.add 0 = a := rfl
        rw [ea] at hz
        unfold World.cell? at hz
        split at hz
        · cases hsp : a.spot with
          | none => rfl
          | some n => rw [hsp] at hz; simp at hz
        · cases hz
      have hadd : ∀ i, a.add i = ⟨a.block, a.off + i, none⟩ := fun i => by
        unfold Addr.add
        split
        · rename_i e; subst e
          obtain ⟨b, o, s⟩ := a
          simp only at hspot
          subst hspot
          rfl
        · rfl
      obtain ⟨zs, hzl, hzc⟩ : ∃ zs : List Int, zs.length = len * 3 ∧ ∀ j, j < len * 3 → W.cell? (a.add j) = some (.int .i64 (zs.getD j 0)) := by
        have : ∀ m, m ≤ len * 3 → ∃ zs : List Int, zs.length = m ∧ ∀ j, j < m → W.cell? (a.add j) = some (.int .i64 (zs.getD j 0)) := by
          intro m
          induction m with
          | zero => exact fun _ => ⟨[], rfl, fun j hj => absurd hj (Nat.not_lt_zero _)⟩
          | succ m ih =>
            intro hm
            obtain ⟨zs, h1, h2⟩ := ih (by omega)
            obtain ⟨z, hz⟩ := hcell m (by omega)
            refine ⟨zs ++ [z], by rw [List.length_append, h1]; rfl, fun j hj => ?_⟩
            by_cases hjm : j < m
            · rw [h2 j hjm, List.getD_eq_getElem?_getD, List.getD_eq_getElem?_getD, List.getElem?_append_left (by omega)]
            · have : j = m := by omega
              subst this
              rw [hz, List.getD_eq_getElem?_getD, List.getElem?_append_right (by omega), h1]
              simp
        exact this _ (Nat.le_refl _)
      have hlen : (zs.map (Value.int .i64)).length = zs.length := by simp
      have hints : Hx.Ints (zs.map (Value.int .i64)) := fun v hv => by
        obtain ⟨z, _, rfl⟩ := List.mem_map.1 hv
        exact ⟨z, rfl⟩
      refine ends2 hK hname hbody (zs := zs.map (Value.int .i64)) (args := [.slice (some ⟨0, 0, none⟩) len cap, .int .i64 y]) (ρ := fun _ => ⟨a.block, a.off, AH.unk⟩) (hvb (zs.map (Value.int .i64)) hints len cap (by rw [hlen, hzl]; exact Nat.le_refl _) (by unfold AH.unk; omega) y) rfl hn ⟨fun _ => ?_, fun k v hk => ?_⟩ (Hx.sc_of_pure hints.pure 1) (fun v hv => ?_) ?_
      · have := hzc 0 (by omega)
        rw [hadd] at this
        unfold World.cell? at this
        split at this
        · rename_i c _ _ hb
          exact AH.heap_lt hb
        · cases this
      · rw [List.getElem?_map, Option.map_eq_some_iff] at hk
        obtain ⟨z, hz, rfl⟩ := hk
        have hkl : k < zs.length := by
          rcases Nat.lt_or_ge k zs.length with h' | h'
          · exact h'
          · rw [List.getElem?_eq_none h'] at hz; cases hz
        have := hzc k (by omega)
        rw [hadd] at this
        rw [AH.ren_int]
        show W.cell? ⟨a.block, a.off + k, none⟩ = _
        rw [this, List.getD_eq_getElem?_getD, hz]
        rfl
      · simp only [List.mem_cons, List.not_mem_nil, or_false] at hv
        rcases hv with rfl | rfl
        · exact AH.Sc_slice (by show 0 < 1; omega)
        · exact AH.Sc_int _ _ _
      · simp only [List.map_cons, List.map_nil, AH.ren_slice, AH.renA, AH.ren_int]
        rw [Hx.renC_le (by unfold AH.unk; omega)]
        obtain ⟨b, o, s⟩ := a
        simp only at hspot
        subst hspot
        rfl
end Go.Proofs.Ytlnlopeodpamdaa
