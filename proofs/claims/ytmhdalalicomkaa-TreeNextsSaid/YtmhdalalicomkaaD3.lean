/- The document's play as a plain machine. -/
import Derived.Test.YtmhdalalicomkaaD2
namespace Go.Proofs.Ytmhdalalicomkaa
open Go.RowKit

def playAskAllF (fd : List Feed) : Nat → PS → Nat → PS
  | 0, P, _ => P
  | n + 1, P, i => if P.err = 0 then playAskAllF fd n (playAskF fd P i) (i + 1) else P

def bestStep (fd : List Feed) (P : PS) (i : Nat) (best : Option Nat) : Option Nat :=
  if P.hand.getD i false = false then best
  else match best with
    | none => some i
    | some b => if (frontItem fd P i).1 < (frontItem fd P b).1 then some i else some b
def bestF (fd : List Feed) (P : PS) : Nat → Nat → Option Nat → Option Nat
  | 0, _, b => b
  | n + 1, i, b => bestF fd P n (i + 1) (bestStep fd P i b)

def asksF (fd : List Feed) (P : PS) : PS :=
  if P.begun = false then { playAskAllF fd fd.length P 0 with begun := true }
  else if 0 ≤ P.owed then playAskF fd P P.owed.toNat else P

def playNextF (fd : List Feed) (P : PS) : Ans × PS :=
  if P.err ≠ 0 then (((0, 0), P.at_, false, P.err), P)
  else
    let P2 := { asksF fd P with owed := -1 }
    if P2.err ≠ 0 then (((0, 0), P2.at_, false, P2.err), P2)
    else match bestF fd P2 fd.length 0 none with
      | none => (((0, 0), 0, false, 0), P2)
      | some b => ((frontItem fd P2 b, b, true, 0), { P2 with owed := (b : Nat) })

structure PGood (fd : List Feed) (P : PS) : Prop where
  lenG : P.given.length = fd.length
  lenH : P.hand.length = fd.length
  giv : ∀ i, i < fd.length → P.given.getD i 0 ≤ (fd.getD i default).items.length
  hnd : ∀ i, i < fd.length → P.hand.getD i false = true → 1 ≤ P.given.getD i 0
  owed : P.owed < fd.length
  low : -1 ≤ P.owed

theorem getD_set {α : Type} (l : List α) (i j : Nat) (v d : α) : (l.set i v).getD j d = if i = j ∧ j < l.length then v else l.getD j d := by
  simp only [List.getD_eq_getElem?_getD]
  by_cases h : i = j
  · subst h
    by_cases hl : i < l.length
    · rw [List.getElem?_set_self hl, if_pos ⟨rfl, hl⟩]; rfl
    · rw [if_neg (fun h => hl h.2), List.set_eq_of_length_le (by omega)]
  · rw [List.getElem?_set_ne h, if_neg (fun h' => h h'.1)]

theorem playAskF_good {fd : List Feed} {P : PS} (h : PGood fd P) (i : Nat) : PGood fd (playAskF fd P i) := by
  unfold playAskF
  split
  · rename_i hlt
    refine ⟨by simpa using h.lenG, by simpa using h.lenH, fun j hj => ?_, fun j hj hh => ?_, h.owed, h.low⟩
    · show (P.given.set i _).getD j 0 ≤ _
      rw [getD_set]
      split
      · rename_i hc; obtain ⟨rfl, _⟩ := hc; omega
      · exact h.giv j hj
    · show 1 ≤ (P.given.set i _).getD j 0
      have hh : ((P.hand.set i false).set i true).getD j false = true := hh
      rw [getD_set] at hh ⊢
      split
      · omega
      · rename_i hc
        have hlG := h.lenG
        have hij : i ≠ j := fun e => hc ⟨e, by omega⟩
        rw [if_neg (fun h => hij h.1), getD_set, if_neg (fun h => hij h.1)] at hh
        exact h.hnd j hj hh
  · split
    · refine ⟨h.lenG, by simpa using h.lenH, h.giv, fun j hj hh => ?_, h.owed, h.low⟩
      have hh : (P.hand.set i false).getD j false = true := hh
      rw [getD_set] at hh
      split at hh
      · cases hh
      · exact h.hnd j hj hh
    · refine ⟨h.lenG, by simpa using h.lenH, h.giv, fun j hj hh => ?_, h.owed, h.low⟩
      have hh : (P.hand.set i false).getD j false = true := hh
      rw [getD_set] at hh
      split at hh
      · cases hh
      · exact h.hnd j hj hh
theorem playAskF_asked (fd : List Feed) (P : PS) (i : Nat) : (playAskF fd P i).asked = P.asked ++ [i] := by unfold playAskF; split <;> (try split) <;> rfl
theorem playAskF_begun (fd : List Feed) (P : PS) (i : Nat) : (playAskF fd P i).begun = P.begun := by unfold playAskF; split <;> (try split) <;> rfl
theorem playAskF_owed (fd : List Feed) (P : PS) (i : Nat) : (playAskF fd P i).owed = P.owed := by unfold playAskF; split <;> (try split) <;> rfl

theorem playAskAllF_good {fd : List Feed} (n : Nat) : ∀ {P : PS} (_ : PGood fd P) (i : Nat), PGood fd (playAskAllF fd n P i) ∧ (playAskAllF fd n P i).asked.length ≤ P.asked.length + n := by
  induction n with
  | zero => intro P h i; exact ⟨h, Nat.le_refl _⟩
  | succ n ih =>
    intro P h i
    unfold playAskAllF
    split
    · obtain ⟨h1, h2⟩ := ih (playAskF_good h i) (i + 1)
      rw [playAskF_asked] at h2
      exact ⟨h1, by simp at h2; omega⟩
    · exact ⟨h, by omega⟩

theorem asksF_good {fd : List Feed} {P : PS} (h : PGood fd P) : PGood fd (asksF fd P) ∧ (asksF fd P).asked.length ≤ P.asked.length + (fd.length + 1) := by
  unfold asksF
  split
  · obtain ⟨h1, h2⟩ := playAskAllF_good fd.length h 0
    exact ⟨⟨h1.lenG, h1.lenH, h1.giv, h1.hnd, h1.owed, h1.low⟩, by show (playAskAllF fd fd.length P 0).asked.length ≤ _; omega⟩
  · split
    · exact ⟨playAskF_good h _, by rw [playAskF_asked]; simp⟩
    · exact ⟨h, by omega⟩
theorem owe_good {fd : List Feed} {P : PS} (h : PGood fd P) : PGood fd { P with owed := -1 } := ⟨h.lenG, h.lenH, h.giv, h.hnd, by show (-1 : Int) < _; omega, by show (-1 : Int) ≤ -1; omega⟩

theorem bestStep_lt {fd : List Feed} {P : PS} {i : Nat} {b : Option Nat} (hi : i < fd.length) (hb : ∀ q, b = some q → q < fd.length ∧ P.hand.getD q false = true) : ∀ q, bestStep fd P i b = some q → q < fd.length ∧ P.hand.getD q false = true := by
  intro q hq
  unfold bestStep at hq
  split at hq
  · exact hb q hq
  · rename_i hh
    have hh : P.hand.getD i false = true := by simpa using hh
    split at hq
    · cases hq; exact ⟨hi, hh⟩
    · split at hq
      · cases hq; exact ⟨hi, hh⟩
      · exact hb q hq
theorem bestF_lt {fd : List Feed} {P : PS} (n : Nat) : ∀ (i : Nat) (b : Option Nat), i + n ≤ fd.length → (∀ q, b = some q → q < fd.length ∧ P.hand.getD q false = true) → ∀ q, bestF fd P n i b = some q → q < fd.length ∧ P.hand.getD q false = true := by
  induction n with
  | zero => intro i b _ hb; exact hb
  | succ n ih => intro i b hi hb; exact ih (i + 1) _ (by omega) (bestStep_lt (by omega) hb)

theorem playNextF_good {fd : List Feed} {P : PS} (h : PGood fd P) : PGood fd (playNextF fd P).2 ∧ (playNextF fd P).2.asked.length ≤ P.asked.length + (fd.length + 1) := by
  obtain ⟨h1, h2⟩ := asksF_good h
  have h3 := owe_good h1
  unfold playNextF
  split
  · exact ⟨h, by show P.asked.length ≤ _; omega⟩
  · simp only
    split
    · exact ⟨h3, h2⟩
    · split
      · exact ⟨h3, h2⟩
      · rename_i b hb
        have := (bestF_lt fd.length 0 none (by omega) (fun q hq => by cases hq) b hb).1
        exact ⟨⟨h3.lenG, h3.lenH, h3.giv, h3.hnd, by show ((b : Nat) : Int) < _; omega, by show (-1 : Int) ≤ (b : Nat); omega⟩, h2⟩
end Go.Proofs.Ytmhdalalicomkaa
