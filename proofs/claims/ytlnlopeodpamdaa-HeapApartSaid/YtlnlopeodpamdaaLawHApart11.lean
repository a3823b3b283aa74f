/-
  HeapApart: the end.
-/
import Derived.Test.YtlnlopeodpamdaaLawHApart10
set_option maxRecDepth 100000
set_option linter.unusedVariables false
namespace Go.Proofs.Ytlnlopeodpamdaa.Hx
open Go AH Go.Proofs
noncomputable section

theorem gensUp_ints {gs : List MapEntry} {c : Nat} {a : Int} (h : ∀ e ∈ gs, ∃ p z, e.key = .int .i64 p ∧ e.val = .int .i64 z) : ∀ e ∈ (gensUp gs c a).1, ∃ p z, e.key = .int .i64 p ∧ e.val = .int .i64 z := by
  intro e he
  unfold gensUp at he
  split at he
  · rename_i j _ _
    obtain ⟨i, hi, rfl⟩ := List.getElem_of_mem he
    simp only [List.getElem_modify]
    split
    · exact ⟨_, _, rfl, rfl⟩
    · exact h _ (List.getElem_mem _)
  · rcases List.mem_append.1 he with he | he
    · exact h e he
    · simp only [List.mem_singleton] at he
      subst he
      exact ⟨_, _, rfl, rfl⟩

theorem takeS_nice {s : HS} {m : Nat} {old : List Value} (h0 : s.Nice m old) (hgs : ∀ e ∈ s.gs, ∃ p z, e.key = .int .i64 p ∧ e.val = .int .i64 z) (p k : Nat) : (takeS s p k).Nice m old := by
  refine ⟨fun ρ => ?_, pure_mapE fun e he ρ => ?_, h0.cs, fun ρ => ?_, fun ρ => setR_map (h0.bs ρ) (by simp) _ _, h0.pold, h0.cl, ?_, (setR_len _ _ _ _).trans h0.bl, h0.n, h0.was, h0.dead⟩
  · show (s.es ++ [_]).map _ = s.es ++ [_]
    rw [List.map_append, h0.es]
    simp only [List.map_cons, List.map_nil, renE, ren_int, blkV_pure]
  · obtain ⟨p, z, h1, h2⟩ := gensUp_ints hgs e he
    rw [h1, h2]
    exact ⟨by simp, by simp⟩
  · show (putAt s.ws p (repl k [.int .u64 0])).map _ = putAt s.ws p (repl k [.int .u64 0])
    rw [putAt_map, h0.ws, repl_pure (fun ρ => by simp)]
  · show (putAt s.ws p (repl k [.int .u64 0])).length = _
    rw [putAt_length]; exact h0.wl

/-- All words are taken at once. -/
theorem ap_all {L : BL} (h : FitL L) {s : HS} {old : List Value} (g : Gv L L.length s old) (X : St) (hX : 7 ≤ X.next) (hl : L.length < 1000) :
    WF M.toEnv 27 [.pointer (some ⟨0, 0, none⟩), .int .i64 126] (mix s X) (fun r σ' => r = .tuple #[.int .i64 2, .int .i64 0] ∧ σ' = mix (takeS s 2 126) X) := by
  have hes : s.es = [] := by rw [g.es, ← esL_len, List.drop_length]
  have hgs : ∀ e ∈ s.gs, ∃ p z, e.key = .int .i64 p ∧ e.val = .int .i64 z := fun e he => by
    rw [g.gs] at he
    obtain ⟨p, h1, h2⟩ := gsL_mem L e he
    exact ⟨_, _, h1, h2⟩
  have hGd : s.Good := ⟨g.nice.ok, by rw [hes]; exact ⟨List.nodup_nil, by simp⟩, by rw [hes]; intro e he; simp at he, by rw [hes]; simp, by rw [hes]; exact List.nodup_nil, by
    rcases g.nice.was with ⟨e, _, _⟩ | ⟨e, _, _⟩ | ⟨e, _, _, _⟩
    · exact .inl e
    · exact .inr ⟨_, _, e, Nat.le_refl _⟩
    · exact .inr ⟨_, _, e, Nat.zero_le _⟩⟩
  have hblk : s.blocks = [] := by unfold HS.blocks; rw [hes]; rfl
  have hfit : Fits s (126 : Nat) := ⟨by rw [g.first]; omega, by rw [g.words]; omega, by omega, fun b hb => by rw [hblk] at hb; simp at hb⟩
  have hsg : ShapedG s.gs := fun e he => by
    rw [g.gs] at he
    obtain ⟨p, h1, h2⟩ := gsL_mem L e he
    exact ⟨_, _, h1, h2, by omega, by omega⟩
  have ht := take_ok s 126 2 126 (by omega) (by omega) (by rfl) hGd hsg hfit (by rw [hblk, g.first]; rfl) (by rw [hblk, g.first, g.words]; rfl) (by rw [g.n]; omega) (by rw [hes]; simp) g.nice.mflat (by rw [hes]; rfl)
  have hnice := takeS_nice g.nice hgs 2 126
  exact lift g.nice.ok g.nice.flat hnice.ok hnice.flat hX (args2 _) (ren2 _) (fun ρ => by simp) (.inl rfl) ht

theorem ap_last {L : BL} (h : FitL L) (hl : L.length < 1000) (c : Int) (s : HS) (old : List Value) (g : Gv L L.length s old) : VB 0 M 7 Try.f7.ntmps k6 (frL (apJ (blL L) L.length)) (mix s (X15 L c)) (fun r _ => r = .bool true) := by
  have hll : (blL L).length = L.length := blL_len L
  have hxv : ∀ σ t, (t = 122 ∨ t = 191 ∨ t = 228 ∨ t = 235) → opQ M.toEnv (frL [(t, xv (blL L))]) σ (.call ⟨.builtin .len, #[.tmp t], #[68]⟩) = some (.int .i64 (L.length : Nat)) := fun σ t ht => by rw [xv_len _ _ t ht, hll]
  refine runS_fin ev0_ok (giv := givL [(192, .q (.int .i64 (L.length : Nat))), (193, .q (.bool false)), (216, .c (.tuple #[.int .i64 2, .int .i64 0]) (mix (takeS s 2 126) (X15 L c))), (229, .q (.int .i64 (L.length : Nat))), (230, .q (.bool true)), (236, .q (.int .i64 (L.length : Nat))), (237, .q (.bool true)), (250, .c (.bool true) (mix (takeS s 2 126) (X15 L c)))]) (n := 200) Try.func7
    (v := .bool true) (σ' := mix (takeS s 2 126) (X15 L c))
    (p' := (((((((True ∧ opQ M.toEnv (frL [(191, xv (blL L))]) (mix s (X15 L c)) (.call ⟨.builtin .len, #[.tmp 191], #[68]⟩) = some (.int .i64 (L.length : Nat)))
      ∧ some (Value.bool (ltI (L.length : Int) ((L.length : Nat) : Int))) = some (.bool false))
      ∧ WF M.toEnv 27 [.pointer (some ⟨0, 0, none⟩), .int .i64 126] (mix s (X15 L c)) (fun r σ' => r = .tuple #[.int .i64 2, .int .i64 0] ∧ σ' = mix (takeS s 2 126) (X15 L c)))
      ∧ opQ M.toEnv (frL [(228, xv (blL L))]) (mix (takeS s 2 126) (X15 L c)) (.call ⟨.builtin .len, #[.tmp 228], #[68]⟩) = some (.int .i64 (L.length : Nat)))
      ∧ some (Value.bool (decide (s.bad = ((L.length : Nat) : Int)))) = some (.bool true))
      ∧ opQ M.toEnv (frL [(235, xv (blL L))]) (mix (takeS s 2 126) (X15 L c)) (.call ⟨.builtin .len, #[.tmp 235], #[68]⟩) = some (.int .i64 (L.length : Nat)))
      ∧ some (Value.bool (decide ((((esL L).length : Nat) : Int) = ((L.length : Nat) : Int)))) = some (.bool true))
      ∧ WF M.toEnv 32 [] (mix (takeS s 2 126) (X15 L c)) (fun r σ' => r = .bool true ∧ σ' = mix (takeS s 2 126) (X15 L c)))
    (by kernel_rfl) ⟨⟨⟨⟨⟨⟨⟨⟨trivial, hxv _ 191 (.inr (.inl rfl))⟩, ?_⟩, ap_all h g _ (by show 7 ≤ 15; omega) hl⟩, hxv _ 228 (.inr (.inr (.inl rfl)))⟩, ?_⟩, hxv _ 235 (.inr (.inr (.inr rfl)))⟩, ?_⟩, orc03_ok 32 [] _ _ _ rfl⟩ rfl
  · rw [ltI_eq, decide_eq_false (by omega)]
  · rw [g.bad, decide_eq_true rfl]
  · rw [esL_len, decide_eq_true rfl]

theorem ap_loop3 {L : BL} (h : FitL L) (hl : L.length < 1000) (c : Int) : VB 0 M 7 Try.f7.ntmps ap6 (frL (apJ (blL L) 0)) (mix (cpS L c) (X15 L c)) (fun r _ => r = .bool true) := by
  rw [ap6_eq]
  refine VB.loop (fun f σ => ∃ (i : Nat) (s : HS) (old : List Value), i ≤ L.length ∧ Gv L i s old ∧ f = frL (apJ (blL L) i) ∧ σ = mix s (X15 L c)) (fun f σ => L.length - (match f.get 20 with | some (.int _ j) => j.toNat | _ => 0)) ⟨0, cpS L c, [], by omega, ⟨cpS_nice h c, rfl, rfl, rfl, rfl, rfl, rfl, rfl⟩, rfl, rfl⟩ ?_
  intro f σ ⟨i, s, old, hi, g, hf, hσ⟩ ih
  subst hf; subst hσ
  have hll : (blL L).length = L.length := blL_len L
  by_cases hil : i < L.length
  · have hib : i < (blL L).length := by omega
    obtain ⟨p, k, g1, g2, g3, g4⟩ := blL_mem h _ (List.getElem_mem hib)
    have hle := offL_le h
    refine ap_give h hl c s old g hib g1 g3 (by omega) _ (ih _ _ ⟨i + 1, nextS s p k i old, oldL old p k, by omega, gv_next h g (by omega), rfl, rfl⟩ ?_)
    show L.length - (((i + 1 : Nat) : Int)).toNat < L.length - ((i : Nat) : Int).toNat
    omega
  · have e : i = L.length := by omega
    subst e
    exact ap_last h hl c s old g

/-- HeapApart, of any numbers. -/
theorem ap_vb (zs : List Value) (len cap : Nat) (hz : Ints zs) (hlen : len ≤ zs.length) (hc : cap ≤ unk) : VB 0 M 7 Try.f7.ntmps [.code (bodyC Try.f7)] (initF 0 [.slice (some ⟨0, 0, none⟩) len cap] .nil) (St.empty.push (.ro zs)) (fun r _ => r = .bool true) :=
  ap_start zs len cap hz hc _ (ap_loop hz len cap hlen _ fun L c h hl => ap_loop2 h (by omega) c _ (ap_swap h c _ (ap_loop3 h (by omega) c)))
end
end Go.Proofs.Ytlnlopeodpamdaa.Hx
