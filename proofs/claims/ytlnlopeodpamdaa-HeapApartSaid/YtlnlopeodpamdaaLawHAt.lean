/-
  heap's At, where the word is in a block that is taken.
-/
import Derived.Test.YtlnlopeodpamdaaLawHPeek
set_option maxRecDepth 100000
set_option linter.unusedVariables false
namespace Go.Proofs.Ytlnlopeodpamdaa.Hx
open Go AH Go.Proofs
noncomputable section

/-- Is a word in a block? -/
theorem has_ok (p k g a : Int) (l : Bool) (hp : -2305843009213693951 ≤ p ∧ p ≤ 2305843009213693951) (hk : 0 ≤ k ∧ k ≤ 2305843009213693951) (ha : -2305843009213693951 ≤ a ∧ a ≤ 2305843009213693951) (σ : St) :
    WF M.toEnv 80 [blkV p k g l, .int .i64 a] σ (fun r σ' => r = .bool (decide (p ≤ a) && decide (a < p + k)) ∧ σ' = σ) := by
  refine WF.anyw (fun v hv ρ => ?_) (fun ρ => by simp) ?_ σ
  · simp only [List.mem_cons, List.not_mem_nil, or_false] at hv
    rcases hv with rfl | rfl
    · simp [blkV]
    · simp
  · by_cases h1 : p ≤ a
    · rw [decide_eq_true h1, Bool.true_and]
      refine (WF.run ev0_ok (giv := givL [(8, .q (.bool true)), (16, .q (.bool (decide (a < p + k))))]) (n := 100) (fn := Try.f80) (v := .bool (decide (a < p + k))) (σ' := St.empty.push (.cells 74 [.int .i64 p, .int .i64 k, .int .i64 g, .bool l]))
        (p' := (True ∧ some (Value.bool (leI p a)) = some (.bool true)) ∧ some (Value.bool (ltI (IntKind.i64.wrap (a - p)) k)) = some (.bool (decide (a < p + k)))) Try.func80 rfl (by kernel_rfl) ⟨⟨trivial, ?_⟩, ?_⟩).mono fun r σ' _ e => e.1
      · rw [leI_eq, decide_eq_true h1]
      · rw [IntWalk.i64_in _ (by omega), ltI_eq]
        congr 2
        exact decide_eq_decide.2 (by omega)
    · rw [decide_eq_false h1, Bool.false_and]
      refine (WF.run ev0_ok (giv := givL [(8, .q (.bool false))]) (n := 100) (fn := Try.f80) (v := .bool false) (σ' := St.empty.push (.cells 74 [.int .i64 p, .int .i64 k, .int .i64 g, .bool l]))
        (p' := (True ∧ some (Value.bool (leI p a)) = some (.bool false))) Try.func80 rfl (by kernel_rfl) ⟨trivial, ?_⟩).mono fun r σ' _ e => e.1
      rw [leI_eq, decide_eq_false h1]

noncomputable def atX (s : HS) (a : Int) (seen : List Nat) : St := (⟨7, .leaf⟩ : St) |>.push (.cells 3 [.int .i64 a]) |>.push (.cells 74 [.int .i64 0, .int .i64 0, .int .i64 0, .bool false]) |>.push (.cells 4 [.bool false]) |>.push (.miter (some 1) s.clock seen s.clock)
noncomputable def atS (s : HS) (a : Int) (seen : List Nat) : St := mix s (atX s a seen)
noncomputable def atF : List (Nat × Value) := [(0, .pointer (some ⟨0, 0, none⟩)), (3, .pointer (some ⟨7, 0, none⟩)), (4, .pointer (some ⟨8, 0, none⟩)), (5, .pointer (some ⟨9, 0, none⟩)), (17, .pointer (some ⟨10, 0, none⟩))]
noncomputable def at1 : List Item := pathI 200 [false] [.code (bodyC Try.f38)]
noncomputable def at2 : List Item := pathI 200 [] (.code (loopC at1) :: .inLoop (loopC at1) :: at1.tail)
theorem at1_eq : at1 = .code (.loop (loopC at1)) :: at1.tail := by kernel_rfl
theorem at2_eq : at2 = .code (.region (idI at2) (opsI at2) false) :: at2.tail := by kernel_rfl

theorem at_start (s : HS) (a : Int) (R : Value → St → Prop) (h : VB 7 M 38 Try.f38.ntmps at1 (frL atF) (atS s a []) R) : WF M.toEnv 38 [.pointer (some ⟨0, 0, none⟩), .int .i64 a] (hs s) R :=
  WF.of_VB (fn := Try.f38) (c := bodyC Try.f38) Try.func38 rfl (by kernel_rfl) (by show 2 ≤ 38; omega)
    (runS_stop ev0_ok (giv := fun _ => .no) (n := 200) Try.func38 at1 atF (σ' := atS s a []) (p' := True) (by kernel_rfl) trivial h)

def atY (s : HS) (a : Int) (seen : List Nat) (cs : List Value) : St := mix s ((atX s a seen).push (.cells 74 cs))
theorem atX_get (s : HS) (a : Int) (seen : List Nat) (i : Nat) (hi : 7 ≤ i) : (atX s a seen).get i = if 10 = i then .miter (some 1) s.clock seen s.clock else if 9 = i then .cells 4 [.bool false] else if 8 = i then .cells 74 [.int .i64 0, .int .i64 0, .int .i64 0, .bool false] else if 7 = i then .cells 3 [.int .i64 a] else .dead := by
  simp only [atX, St.get_push]
  rfl
theorem atS_wf {s : HS} (h : s.Ok) (a : Int) (seen : List Nat) : Wf (frL atF) (atS s a seen) := by
  refine ⟨fun i => ?_, fun i hi => ?_, fun t v ht => ?_⟩
  · rw [atS, mix_get]
    split
    · exact hs_sc h i _ (by show 7 ≤ 11; omega)
    · rw [atX_get _ _ _ _ (by omega)]
      split
      · show 1 < 11; omega
      split
      · intro v hv; simp only [List.mem_singleton] at hv; rw [hv]; exact Sc_bool _ _
      split
      · intro v hv
        simp only [List.mem_cons, List.not_mem_nil, or_false] at hv
        rcases hv with rfl | rfl | rfl | rfl <;> first | exact Sc_int _ _ _ | exact Sc_bool _ _
      split
      · intro v hv; simp only [List.mem_singleton] at hv; rw [hv]; exact Sc_int _ _ _
      · trivial
  · rw [atS, mix_get] at hi
    show i < 11
    by_cases h11 : i < 11
    · exact h11
    · rw [if_neg (by omega), atX_get _ _ _ _ (by omega), if_neg (by omega), if_neg (by omega), if_neg (by omega), if_neg (by omega)] at hi
      cases hi
  · have := frL_mem ht
    simp only [atF, List.mem_cons, Prod.mk.injEq, List.not_mem_nil, or_false] at this
    rcases this with ⟨_, rfl⟩ | ⟨_, rfl⟩ | ⟨_, rfl⟩ | ⟨_, rfl⟩ | ⟨_, rfl⟩ <;> exact Sc_ptr (Nat.le_of_ble_eq_true rfl)

/-- The numbers of all blocks are small. -/
def Small64 (es : List MapEntry) : Prop := ∀ e ∈ es, ∀ p k g v, e.val = blkV p k g v → -2305843009213693951 ≤ p ∧ p ≤ 2305843009213693951 ∧ 0 ≤ k ∧ k ≤ 2305843009213693951
/-- Whether a word is in an entry's block. -/
def hasE (a : Int) (e : MapEntry) : Bool := match e.val with
  | .agg cs => (match cs.toList with | [.int _ p, .int _ k, _, _] => decide (p ≤ a) && decide (a < p + k) | _ => false)
  | _ => false
theorem hasE_blk {a : Int} {e : MapEntry} {p k g : Int} {v : Bool} (h : e.val = blkV p k g v) : hasE a e = (decide (p ≤ a) && decide (a < p + k)) := by
  unfold hasE; rw [h]; rfl

theorem frL_get_atF (q : Nat × Value) (hq : q ∈ atF) : (frL atF).get q.1 = some q.2 := by
  simp only [atF, List.mem_cons, List.not_mem_nil, or_false] at hq
  rcases hq with rfl | rfl | rfl | rfl | rfl <;> rfl
/-- Behind the loop over what is taken: nothing there has the word; or a block that has it is what is told. -/
theorem at_loop (s : HS) (a : Int) (hg : s.Good) (hsm : Small64 s.es) (ha : -2305843009213693951 ≤ a ∧ a ≤ 2305843009213693951) (R : Value → St → Prop)
    (hin : ∀ e ∈ s.es, hasE a e = true → ∀ σ', (∀ i, i < 7 → σ'.get i = (hs s).get i) → R (.tuple #[e.val, .bool true]) σ')
    (hout : (∀ e ∈ s.es, hasE a e = false) → ∀ seen, VB 7 M 38 Try.f38.ntmps (pathI 3 [false] at2.tail) (frL atF) (atS s a seen) R) :
    VB 7 M 38 Try.f38.ntmps at1 (frL atF) (atS s a []) R := by
  rw [at1_eq]
  refine VB.loop (fun f σ => ∃ vis : List MapEntry, f = frL atF ∧ σ = atS s a (vis.map (·.born)) ∧ vis.Nodup ∧ (∀ e ∈ vis, e ∈ s.es) ∧ ∀ e ∈ vis, hasE a e = false)
    (fun f σ => s.es.length - (match σ.get 10 with | .miter _ _ seen _ => seen.length | _ => 0)) ⟨[], rfl, rfl, List.nodup_nil, by simp, by simp⟩ ?_
  intro f σ ⟨vis, hf, hσ, hnd, hsub, hno⟩ ih
  subst hf; subst hσ
  refine runS_stop ev0_ok (giv := fun _ => .no) (n := 20) Try.func38 at2 atF (σ' := atS s a (vis.map (·.born))) (p' := True) (by kernel_rfl) trivial ?_
  refine VB.nextS at2_eq (o := (opsI at2).toList.headD default) (rest := (opsI at2).toList.tail) (x := .tmp 17) (r := 10) (m := 1) (since := s.clock) (seen := vis.map (·.born)) (last := s.clock) (es := s.es) (clock := s.clock) (by kernel_rfl) (by kernel_rfl) (by kernel_rfl) (by kernel_rfl) (by kernel_rfl) (by kernel_rfl) (by kernel_rfl) (not_cleared hg.st) ?_
  intro c hc
  rcases cands_old hg.st hsub hc with ⟨rfl, hall⟩ | ⟨e, rfl, he, hnv⟩
  · refine midS_stop ev0_ok (giv := fun _ => .no) (n := 3) Try.func38 (pathI 3 [false] at2.tail) atF (σ' := atS s a (vis.map (·.born))) (p' := True) (by kernel_rfl) trivial ?_
    exact hout (fun e he => hno e (hall e he)) _
  · obtain ⟨p, k, g, v, hv, hk, hl⟩ := hg.sh e he
    obtain ⟨b1, b2, b3, b4⟩ := hsm e he p k g v hv
    have hhas := hasE_blk (a := a) hv
    have hent : opW M.toEnv (frL [(17, .pointer (some ⟨10, 0, none⟩))]) (atS s a (vis.map (·.born) ++ [e.born])) (.entry (.tmp 17)) = some (some (.tuple #[.int .i64 p, blkV p k g v]), atS s a (vis.map (·.born) ++ [e.born])) := by
      rw [← hk, ← hv]
      exact opW_entry (r := 10) (m := 1) (since := s.clock) (seen := vis.map (·.born) ++ [e.born]) (stepped := s.clock) (es := s.es) rfl (by rw [atS, mix_get, if_neg (by omega), atX_get _ _ _ _ (by omega)]; rfl) (by rw [atS, mix_get, if_pos (by omega), hs_get]; rfl) (by simp) (entry_last hg.st he)
    have hcall := has_ok p k g a v ⟨b1, b2⟩ ⟨b3, b4⟩ ha (atY s a (vis.map (·.born) ++ [e.born]) [.int .i64 p, .int .i64 k, .int .i64 g, .bool v])
    rw [← hhas] at hcall
    cases hh : hasE a e with
    | true =>
      rw [hh] at hcall
      refine midS_fin ev0_ok (giv := fun o => match o.op with | .entry _ => .w (some (.tuple #[.int .i64 p, blkV p k g v])) (atS s a (vis.map (·.born) ++ [e.born])) | _ => givL [(24, .c (.bool true) (atY s a (vis.map (·.born) ++ [e.born]) [.int .i64 p, .int .i64 k, .int .i64 g, .bool v]))] o) (n := 100) Try.func38
        (v := .tuple #[blkV p k g v, .bool true]) (σ' := mix s ((⟨7, .leaf⟩ : St) |>.push (.cells 3 [.int .i64 a]) |>.push (.cells 74 [.int .i64 p, .int .i64 k, .int .i64 g, .bool v]) |>.push (.cells 4 [.bool true]) |>.push (.miter (some 1) s.clock (vis.map (·.born) ++ [e.born]) s.clock) |>.push (.cells 74 [.int .i64 p, .int .i64 k, .int .i64 g, .bool v])))
        (p' := (True ∧ opW M.toEnv (frL [(17, .pointer (some ⟨10, 0, none⟩))]) (atS s a (vis.map (·.born) ++ [e.born])) (.entry (.tmp 17)) = some (some (.tuple #[.int .i64 p, blkV p k g v]), atS s a (vis.map (·.born) ++ [e.born]))) ∧ WF M.toEnv 80 [blkV p k g v, .int .i64 a] (atY s a (vis.map (·.born) ++ [e.born]) [.int .i64 p, .int .i64 k, .int .i64 g, .bool v]) (fun r σ' => r = .bool true ∧ σ' = atY s a (vis.map (·.born) ++ [e.born]) [.int .i64 p, .int .i64 k, .int .i64 g, .bool v]))
        (by kernel_rfl) ⟨⟨trivial, hent⟩, hcall⟩ ?_
      rw [← hv]
      exact hin e he hh _ fun i hi => by rw [mix_get, if_pos hi]
    | false =>
      rw [hh] at hcall
      refine midS_stop ev0_ok (giv := fun o => match o.op with | .entry _ => .w (some (.tuple #[.int .i64 p, blkV p k g v])) (atS s a (vis.map (·.born) ++ [e.born])) | _ => givL [(24, .c (.bool false) (atY s a (vis.map (·.born) ++ [e.born]) [.int .i64 p, .int .i64 k, .int .i64 g, .bool v]))] o) (n := 100) Try.func38
        (.inLoop (loopC at1) :: at1.tail) atF (σ' := atY s a (vis.map (·.born) ++ [e.born]) [.int .i64 p, .int .i64 k, .int .i64 g, .bool v])
        (p' := (True ∧ opW M.toEnv (frL [(17, .pointer (some ⟨10, 0, none⟩))]) (atS s a (vis.map (·.born) ++ [e.born])) (.entry (.tmp 17)) = some (some (.tuple #[.int .i64 p, blkV p k g v]), atS s a (vis.map (·.born) ++ [e.born]))) ∧ WF M.toEnv 80 [blkV p k g v, .int .i64 a] (atY s a (vis.map (·.born) ++ [e.born]) [.int .i64 p, .int .i64 k, .int .i64 g, .bool v]) (fun r σ' => r = .bool false ∧ σ' = atY s a (vis.map (·.born) ++ [e.born]) [.int .i64 p, .int .i64 k, .int .i64 g, .bool v]))
        (by kernel_rfl) ⟨⟨trivial, hent⟩, hcall⟩ ?_
      have hm : vis.map (·.born) ++ [e.born] = (vis ++ [e]).map (·.born) := by simp
      refine VB.cut atF (atS s a ((vis ++ [e]).map (·.born))) (fun q hq => frL_get_atF q hq) rfl (atS_wf hg.ok a _) (by show 7 ≤ 11; omega) (fun i => ?_) (ih _ _ ⟨vis ++ [e], rfl, rfl, nodup_snoc hnd hnv, ?_, ?_⟩ ?_)
      · rw [atS, atY, mix_get, mix_get, St.get_push, hm]
        show (if i < 7 then _ else (atX s a _).get i) = (if i < 7 then _ else if 11 = i then _ else _) ∨ _
        by_cases hi : i < 7
        · rw [if_pos hi, if_pos hi]; exact .inl rfl
        · rw [if_neg hi, if_neg hi]
          by_cases h11 : 11 = i
          · subst h11; right; rw [atX_get _ _ _ _ (by omega)]; rfl
          · rw [if_neg h11]; exact .inl rfl
      · intro x hx
        rcases List.mem_append.1 hx with hx | hx
        · exact hsub x hx
        · simp only [List.mem_singleton] at hx; subst hx; exact he
      · intro x hx
        rcases List.mem_append.1 hx with hx | hx
        · exact hno x hx
        · simp only [List.mem_singleton] at hx; subst hx; exact hh
      · have h1 : vis.length + 1 ≤ s.es.length := by
          have := length_le_of_sub (nodup_snoc hnd hnv) (fun x hx => by
            rcases List.mem_append.1 hx with hx | hx
            · exact hsub x hx
            · simp only [List.mem_singleton] at hx; subst hx; exact he : ∀ x ∈ vis ++ [e], x ∈ s.es)
          simpa using this
        have h10 : ∀ seen, (atS s a seen).get 10 = .miter (some 1) s.clock seen s.clock := fun seen => by rw [atS, mix_get, if_neg (by omega), atX_get _ _ _ _ (by omega), if_pos rfl]
        rw [h10, h10]
        show s.es.length - ((vis ++ [e]).map (·.born)).length < s.es.length - (vis.map (·.born)).length
        simp only [List.length_map, List.length_append, List.length_singleton]
        omega

/-- A word of a block that is taken. -/
theorem at_taken (s : HS) (a : Int) (hg : s.Good) (hsm : Small64 s.es) (ha : -2305843009213693951 ≤ a ∧ a ≤ 2305843009213693951) (e : MapEntry) (he : e ∈ s.es) (hh : hasE a e = true) (hu : ∀ e' ∈ s.es, hasE a e' = true → e'.val = e.val) :
    WF M.toEnv 38 [.pointer (some ⟨0, 0, none⟩), .int .i64 a] (hs s) (fun r σ' => r = .tuple #[e.val, .bool true] ∧ σ' = hs s) := by
  obtain ⟨p, k, g, v, hv, _, _⟩ := hg.sh e he
  refine WF.gc (at_start s a _ (at_loop s a hg hsm ha _ (fun e' he' hh' σ' hσ => ⟨⟨by rw [hu e' he' hh'], ?_⟩, hσ⟩) fun hno => absurd hh (by rw [hno e he]; simp)))
  rw [hu e' he' hh', hv]
  exact Sc_tuple.2 fun v hv => by
    simp only [List.mem_cons, List.not_mem_nil, or_false] at hv
    rcases hv with rfl | rfl
    · refine Sc_agg.2 fun v hv => ?_
      simp only [List.mem_cons, List.not_mem_nil, or_false] at hv
      rcases hv with rfl | rfl | rfl | rfl <;> first | exact Sc_int _ _ _ | exact Sc_bool _ _
    · exact Sc_bool _ _
end
end Go.Proofs.Ytlnlopeodpamdaa.Hx
