/- The tree's machine keeps its shape. -/
import Derived.Test.YtmhdalalicomkaaB5
namespace Go.Proofs.Ytmhdalalicomkaa
open Go.RowKit
variable {σ : Type} {E : Sys σ} {B0 t L M k : Nat} {F : σ → Nat → Prop} {I : Nat → σ → World → Prop} {gs : Nat → FuncId} {lbs : Nat → Array Value} {og : FuncId} {ob : Array Value}

/-- The tree's shape: its size, its order, its sources; losers and the winner are leaves. -/
structure Good (S : TS) (k : Nat) (gs : Nat → FuncId) (lbs : Nat → Array Value) (og : FuncId) (ob : Array Value) : Prop where
  len : S.leaves.length = k
  ord : S.ord = .func (.func og) #[] ob
  fns : ∀ i, i < k → (S.leaves.getD i default).fn = .func (.func (gs i)) #[] (lbs i)
  los : ∀ x ∈ S.losers, x < k
  loslen : S.losers.length = k
  win : 0 < k → S.win < k
  pos : S.owed = true → 0 < k

theorem askF_good (E : Sys σ) {S : TS} (h : Good S k gs lbs og ob) (s : σ) (i : Nat) (hi : i < k) : Good (askF E S s i).2.1 k gs lbs og ob := by
  unfold askF
  simp only
  split
  · exact ⟨h.len, h.ord, h.fns, h.los, h.loslen, h.win, h.pos⟩
  · refine ⟨by simpa using h.len, h.ord, fun j hj => ?_, h.los, h.loslen, h.win, h.pos⟩
    by_cases e : j = i
    · subst e
      have : j < S.leaves.length := by rw [h.len]; exact hj
      simp only [List.getD_eq_getElem?_getD, List.getElem?_set_self this, Option.getD_some]
      have := h.fns j hj
      rwa [List.getD_eq_getElem?_getD] at this
    · simp only [List.getD_eq_getElem?_getD, List.getElem?_set_ne (Ne.symm e)]
      have := h.fns j hj
      rwa [List.getD_eq_getElem?_getD] at this

theorem askAllF_good (E : Sys σ) : ∀ (n : Nat) {S : TS} (_ : Good S k gs lbs og ob) (s : σ) (i : Nat) (_ : i + n ≤ k), Good (askAllF E n S s i).2.1 k gs lbs og ob := by
  intro n
  induction n with
  | zero => intro S h s i _; exact h
  | succ n ih =>
    intro S h s i hi
    have h1 := askF_good E h s i (by omega)
    simp only [askAllF]
    split
    · exact ih h1 _ _ (by omega)
    · exact h1

theorem playF_los (E : Sys σ) (lv : List Leaf) : ∀ f node ls cmp s, 1 ≤ node → node < 2 * lv.length → lv.length ≤ node * 2 ^ f → (∀ x ∈ ls, x < lv.length) → ∀ x ∈ (playF E lv f node ls cmp s).2.1, x < lv.length := by
  intro f
  induction f with
  | zero => intro node ls cmp s h1 h2 h3 h4; simp only [playF]; exact h4
  | succ f ih =>
    intro node ls cmp s h1 h2 h3 h4
    simp only [playF]
    by_cases h : lv.length ≤ node
    · rw [if_pos h]; exact h4
    · rw [if_neg h]
      have e1 : 2 * node * 2 ^ f = node * 2 ^ (f + 1) := by rw [Nat.pow_succ]; ac_rfl
      have a := ih (2 * node) ls cmp s (by omega) (by omega) (by omega) h4
      have b := ih (2 * node + 1) (playF E lv f (2 * node) ls cmp s).2.1 (playF E lv f (2 * node) ls cmp s).2.2.1 (playF E lv f (2 * node) ls cmp s).2.2.2 (by omega) (by omega) (by rw [Nat.add_mul]; omega) a
      have a1 := playF_lt E lv f (2 * node) ls cmp s (by omega) (by omega) (by omega)
      have b1 := playF_lt E lv f (2 * node + 1) (playF E lv f (2 * node) ls cmp s).2.1 (playF E lv f (2 * node) ls cmp s).2.2.1 (playF E lv f (2 * node) ls cmp s).2.2.2 (by omega) (by omega) (by rw [Nat.add_mul]; omega)
      split
      all_goals
        intro x hx
        rcases List.mem_or_eq_of_mem_set hx with hx | rfl
        · exact b x hx
        · first | exact a1 | exact b1

theorem upF_good (E : Sys σ) (lv : List Leaf) (k : Nat) : ∀ f node i ls cmp s, i < k → ls.length = k → (∀ x ∈ ls, x < k) → (node < k) →
    (upF E lv f node i ls cmp s).1 < k ∧ (upF E lv f node i ls cmp s).2.1.length = k ∧ ∀ x ∈ (upF E lv f node i ls cmp s).2.1, x < k := by
  intro f
  induction f with
  | zero => intro node i ls cmp s h1 h2 h3 _; exact ⟨h1, h2, h3⟩
  | succ f ih =>
    intro node i ls cmp s h1 h2 h3 h4
    simp only [upF]
    by_cases h : node = 0
    · rw [if_pos h]; exact ⟨h1, h2, h3⟩
    · rw [if_neg h]
      have hl : ls.getD node 0 < k := by
        rw [List.getD_eq_getElem?_getD, List.getElem?_eq_getElem (by omega)]
        exact h3 _ (List.getElem_mem _)
      split
      · refine ih _ _ _ _ _ hl (by simpa using h2) ?_ (by omega)
        intro x hx
        rcases List.mem_or_eq_of_mem_set hx with hx | rfl
        · exact h3 x hx
        · exact h1
      · exact ih _ _ _ _ _ h1 h2 h3 (by omega)

theorem replayF_good (E : Sys σ) {S : TS} (h : Good S k gs lbs og ob) (s : σ) (i : Nat) (hi : i < k) : Good (replayF E S s i).1 k gs lbs og ob := by
  obtain ⟨a, b, c⟩ := upF_good E S.leaves k 7 ((i + S.leaves.length) / 2) i S.losers S.cmp s hi h.loslen h.los (by rw [h.len]; omega)
  unfold replayF
  exact ⟨h.len, h.ord, h.fns, c, b, fun _ => a, h.pos⟩

theorem beginF_good (E : Sys σ) {S : TS} (h : Good S k gs lbs og ob) (hk : k ≤ 64) (s : σ) : Good (beginF E S s).2.1 k gs lbs og ob := by
  have h1 := askAllF_good E S.leaves.length h s 0 (by rw [h.len]; omega)
  unfold beginF
  simp only
  split
  · split
    · rename_i hp
      have hl := h1.len
      have c1 := playF_lt E (askAllF E S.leaves.length S s 0).2.1.leaves 6 1 (askAllF E S.leaves.length S s 0).2.1.losers (askAllF E S.leaves.length S s 0).2.1.cmp (askAllF E S.leaves.length S s 0).2.2 (by omega) (by omega) (by omega)
      have c2 := playF_los E (askAllF E S.leaves.length S s 0).2.1.leaves 6 1 (askAllF E S.leaves.length S s 0).2.1.losers (askAllF E S.leaves.length S s 0).2.1.cmp (askAllF E S.leaves.length S s 0).2.2 (by omega) (by omega) (by omega) (by rw [hl]; exact h1.los)
      have c3 := playF_len E (askAllF E S.leaves.length S s 0).2.1.leaves 6 1 (askAllF E S.leaves.length S s 0).2.1.losers (askAllF E S.leaves.length S s 0).2.1.cmp (askAllF E S.leaves.length S s 0).2.2
      rw [hl] at c1 c2
      exact ⟨hl, h1.ord, h1.fns, c2, c3.trans h1.loslen, fun _ => c1, h1.pos⟩
    · exact ⟨h1.len, h1.ord, h1.fns, h1.los, h1.loslen, h1.win, h1.pos⟩
  · exact h1

theorem frontF_good {S : TS} (h : Good S k gs lbs og ob) (s : σ) : Good (frontF S s).2.1 k gs lbs og ob := by
  unfold frontF
  split
  · exact h
  · rename_i hn
    exact ⟨h.len, h.ord, h.fns, h.los, h.loslen, h.win, fun _ => by have := h.len; omega⟩

theorem nextF_good (E : Sys σ) {S : TS} (h : Good S k gs lbs og ob) (hk : k ≤ 64) (s : σ) : Good (nextF E S s).2.1 k gs lbs og ob := by
  unfold nextF
  simp only
  split
  · exact h
  · split
    · have hb := beginF_good E h hk s
      split
      · exact frontF_good hb _
      · exact hb
    · split
      · have h1 : Good { S with owed := false } k gs lbs og ob := ⟨h.len, h.ord, h.fns, h.los, h.loslen, h.win, fun h => by cases h⟩
        have h0 := h.pos (by assumption)
        have h2 := askF_good E h1 s S.win (h.win h0)
        split
        · exact frontF_good (replayF_good E h2 _ _ (h.win h0)) _
        · exact h2
      · exact frontF_good h s

end Go.Proofs.Ytmhdalalicomkaa
