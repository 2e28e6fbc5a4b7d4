/- Plain law: Next alike. -/
import Derived.Test.YtmhdalalicomkaaP4
namespace Go.Proofs.Ytmhdalalicomkaa

/-- What the least front is. -/
def Best (fd : List Feed) (P : PS) (n : Nat) : Option Nat → Prop
  | none => ∀ i, i < n → P.hand.getD i false = false
  | some b => b < n ∧ P.hand.getD b false = true ∧ ∀ i, i < n → P.hand.getD i false = true → i = b ∨ (frontItem fd P b).1 < (frontItem fd P i).1 ∨ ((frontItem fd P b).1 = (frontItem fd P i).1 ∧ b < i)

theorem best_step {fd : List Feed} {P : PS} {n : Nat} {b : Option Nat} (h : Best fd P n b) : Best fd P (n + 1) (bestStep fd P n b) := by
  unfold bestStep
  split
  · rename_i hh
    cases b with
    | none =>
      intro i hi
      by_cases e : i = n
      · subst e; exact hh
      · exact h i (by omega)
    | some b =>
      obtain ⟨h1, h2, h3⟩ := h
      refine ⟨by omega, h2, fun i hi hhi => ?_⟩
      by_cases e : i = n
      · subst e; rw [hh] at hhi; cases hhi
      · exact h3 i (by omega) hhi
  · rename_i hh
    have hh : P.hand.getD n false = true := by simpa using hh
    cases b with
    | none =>
      refine ⟨by omega, hh, fun i hi hhi => ?_⟩
      by_cases e : i = n
      · exact .inl e
      · have := h i (by omega); rw [this] at hhi; cases hhi
    | some b =>
      obtain ⟨h1, h2, h3⟩ := h
      simp only
      split
      · rename_i hlt
        refine ⟨by omega, hh, fun i hi hhi => ?_⟩
        by_cases e : i = n
        · exact .inl e
        · rcases h3 i (by omega) hhi with rfl | h4 | ⟨h4, _⟩
          · exact .inr (.inl hlt)
          · exact .inr (.inl (by omega))
          · exact .inr (.inl (by omega))
      · rename_i hlt
        refine ⟨by omega, h2, fun i hi hhi => ?_⟩
        by_cases e : i = n
        · subst e
          by_cases h5 : (frontItem fd P b).1 < (frontItem fd P i).1
          · exact .inr (.inl h5)
          · exact .inr (.inr ⟨by omega, by omega⟩)
        · exact h3 i (by omega) hhi
theorem best_spec (fd : List Feed) (P : PS) (n : Nat) : ∀ (i : Nat) (b : Option Nat), Best fd P i b → Best fd P (i + n) (bestF fd P n i b) := by
  induction n with
  | zero => intro i b h; exact h
  | succ n ih =>
    intro i b h
    have := ih (i + 1) _ (best_step h)
    rw [show i + 1 + n = i + (n + 1) by omega] at this
    exact this

/-- All is alike, no source has failed. -/
structure Full (fd : List Feed) (S : TS) (s : GS) (P : PS) : Prop where
  corr : Corr fd S s P
  begun : S.begun = P.begun
  owed : (S.owed = false ∧ P.owed = -1) ∨ (S.owed = true ∧ S.begun = true ∧ P.owed = (S.win : Nat) ∧ S.win < fd.length)
  tour : S.begun = true → 0 < fd.length → Tour S.leaves S.losers S.win
  los : S.losers.length = fd.length

structure Sim (fd : List Feed) (S : TS) (s : GS) (P : PS) : Prop where
  asked : s.asked = P.asked
  at_ : S.at_ = P.at_
  err : S.err = P.err
  full : P.err = 0 → Full fd S s P

/-- The winner is the document's best. -/
theorem front_same {fd : List Feed} {S : TS} {s : GS} {P : PS} (C : Corr fd S s P) (ho : P.owed = -1) (hS : S.owed = false) (hb : S.begun = true) (hPb : P.begun = true) (hat : S.at_ = P.at_) (herr : S.err = P.err) (he : P.err = 0)
    (ht : 0 < fd.length → Tour S.leaves S.losers S.win) (hl : S.losers.length = fd.length) :
    (frontF S s).1 = (match bestF fd P fd.length 0 none with | none => (((0, 0), 0, false, 0) : Ans) | some b => (frontItem fd P b, b, true, 0)) ∧
    Sim fd (frontF S s).2.1 (frontF S s).2.2 (match bestF fd P fd.length 0 none with | none => P | some b => { P with owed := (b : Nat) }) := by
  have hB := best_spec fd P fd.length 0 none (fun i hi => by omega)
  rw [Nat.zero_add] at hB
  have hlen := C.len
  by_cases hk : fd.length = 0
  · rw [hk]
    unfold frontF
    rw [if_pos (.inl (by omega))]
    simp only [bestF]
    exact ⟨trivial, C.asked, hat, herr, fun _ => ⟨C, by rw [hb, hPb], .inl ⟨hS, ho⟩, fun _ h => by omega, hl⟩⟩
  · have hk : 0 < fd.length := by omega
    have hT := ht hk
    obtain ⟨w1, -, w3⟩ := W_spec S.leaves S.leaves.length 1 (by omega) (by omega) (by omega)
    rw [← hT.win] at w1 w3
    have hw3 : ∀ i, i < fd.length → i = S.win ∨ ahead S.leaves S.win i = true := fun i hi => w3 i (by omega) (below_one _ (by omega))
    cases hbst : bestF fd P fd.length 0 none with
    | none =>
      rw [hbst] at hB
      unfold frontF
      have hn : (S.leaves.getD S.win default).has = false := by rw [C.has _ (by omega)]; exact hB _ (by omega)
      rw [if_pos (.inr hn)]
      exact ⟨rfl, C.asked, hat, herr, fun _ => ⟨C, by rw [hb, hPb], .inl ⟨hS, ho⟩, fun _ _ => hT, hl⟩⟩
    | some b =>
      rw [hbst] at hB
      obtain ⟨b1, b2, b3⟩ := hB
      have hwb : S.win = b := by
        rcases hw3 b b1 with h | h
        · exact h.symm
        · by_cases e : S.win = b
          · exact e
          · exfalso
            unfold ahead lhas lkey at h
            rw [C.has _ b1, b2] at h
            have hwh : (S.leaves.getD S.win default).has = true := by
              cases hc : (S.leaves.getD S.win default).has
              · rw [hc] at h; simp at h
              · rfl
            rw [hwh] at h
            rw [C.has _ (by omega)] at hwh
            rw [C.hand _ (by omega) hwh, C.hand _ b1 b2] at h
            simp at h
            rcases b3 S.win (by omega) hwh with h1 | h1 | h1 <;> omega
      unfold frontF
      have hh : (S.leaves.getD S.win default).has = true := by rw [hwb, C.has _ b1]; exact b2
      rw [if_neg (fun h => h.elim (fun h => by omega) (fun h => by rw [hh] at h; cases h))]
      refine ⟨by rw [hwb, C.hand _ b1 b2], C.asked, hat, herr, fun _ => ⟨⟨hlen, C.pos, C.asked, ⟨C.good.lenG, C.good.lenH, C.good.giv, C.good.hnd, by show ((b : Nat) : Int) < _; omega, by show (-1 : Int) ≤ (b : Nat); omega⟩, C.has, C.hand⟩, by show S.begun = P.begun; rw [hb, hPb], .inr ⟨rfl, hb, by show ((b : Nat) : Int) = _; rw [hwb], by show S.win < _; omega⟩, fun _ _ => ⟨hT.los, hT.win⟩, hl⟩⟩

theorem corr_set {fd : List Feed} {S S' : TS} {s : GS} {P P' : PS} (C : Corr fd S s P) (h1 : S'.leaves = S.leaves) (h2 : P'.given = P.given) (h3 : P'.hand = P.hand) (h4 : P'.asked = P.asked) (h5 : P'.owed < fd.length) (h6 : -1 ≤ P'.owed) : Corr fd S' s P' := by
  obtain ⟨a, b, c, d, e, f⟩ := C
  refine ⟨by rw [h1]; exact a, by rw [h2]; exact b, by rw [h4]; exact c, ⟨by rw [h2]; exact d.lenG, by rw [h3]; exact d.lenH, by rw [h2]; exact d.giv, by rw [h2, h3]; exact d.hnd, h5, h6⟩, by rw [h1, h3]; exact e, fun i hi hh => ?_⟩
  rw [h3] at hh
  rw [h1]
  unfold frontItem
  rw [h2]
  exact f i hi hh

theorem playAskAllF_keep (fd : List Feed) (n : Nat) : ∀ (P : PS) (i : Nat), (playAskAllF fd n P i).owed = P.owed := by
  induction n with
  | zero => intro P i; rfl
  | succ n ih =>
    intro P i
    unfold playAskAllF
    split
    · rw [ih, playAskF_owed]
    · rfl
end Go.Proofs.Ytmhdalalicomkaa
