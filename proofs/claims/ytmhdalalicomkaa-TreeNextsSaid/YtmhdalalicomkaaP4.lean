/- Plain law: the tree over a gauge's sources and the document's play answer alike. -/
import Derived.Test.YtmhdalalicomkaaP3
import Derived.Test.YtmhdalalicomkaaD4
namespace Go.Proofs.Ytmhdalalicomkaa

theorem byKey_cmp (x y : Int) (a b : Nat) : (decide ((if x < y then (-1 : Int) else if y < x then 1 else 0) < 0) || ((if x < y then (-1 : Int) else if y < x then 1 else 0) == 0 && decide (a < b))) = (decide (x < y) || (decide (x = y) && decide (a < b))) := by
  by_cases h1 : x < y
  · simp [h1]
  · by_cases h2 : y < x
    · have : ¬ x = y := by omega
      simp [h1, h2, this]
    · have : x = y := by omega
      simp [this]
theorem gauge_pure (fd : List Feed) : PureOrd (gaugeE fd) := by
  intro lv cmp s a b
  unfold beatsF ahead lhas lkey
  cases h : ((lv.getD a default).has && (lv.getD b default).has)
  · simp only [Bool.false_eq_true, if_false]; exact ⟨trivial, trivial⟩
  · simp only [if_true, gaugeE, byKeyF]
    exact ⟨byKey_cmp _ _ a b, trivial⟩

structure Corr (fd : List Feed) (S : TS) (s : GS) (P : PS) : Prop where
  len : S.leaves.length = fd.length
  pos : s.pos = P.given
  asked : s.asked = P.asked
  good : PGood fd P
  has : ∀ i, i < fd.length → (S.leaves.getD i default).has = P.hand.getD i false
  hand : ∀ i, i < fd.length → P.hand.getD i false = true → (S.leaves.getD i default).hand = frontItem fd P i

theorem ask_same {fd : List Feed} {S : TS} {s : GS} {P : PS} (C : Corr fd S s P) (he : P.err = 0) (i : Nat) (hi : i < fd.length) :
    (∃ lf s1, askF (gaugeE fd) S s i = (true, { S with leaves := S.leaves.set i lf }, s1) ∧ Corr fd { S with leaves := S.leaves.set i lf } s1 (playAskF fd P i) ∧ (playAskF fd P i).err = 0 ∧ (playAskF fd P i).at_ = P.at_) ∨
    (∃ e s1, askF (gaugeE fd) S s i = (false, { S with err := e, at_ := i }, s1) ∧ e ≠ 0 ∧ s1.asked = (playAskF fd P i).asked ∧ (playAskF fd P i).err = e ∧ (playAskF fd P i).at_ = i) := by
  have hl := C.len
  have hG := C.good.lenG
  have hH := C.good.lenH
  have hg := playAskF_good C.good i
  obtain ⟨ps, ask⟩ := s
  obtain rfl : ps = P.given := C.pos
  obtain rfl : ask = P.asked := C.asked
  unfold askF
  simp only [gaugeE]
  unfold feedAns feedNext playAskF at *
  by_cases hlt : P.given.getD i 0 < (fd.getD i default).items.length
  · left
    simp only [if_pos hlt, ne_eq, not_true, if_false, if_true] at hg ⊢
    refine ⟨_, _, rfl, ⟨by simpa using hl, rfl, rfl, hg, fun j hj => ?_, fun j hj hh => ?_⟩, he, trivial⟩
    · show ((S.leaves.set i _).getD j default).has = ((P.hand.set i false).set i true).getD j false
      rw [getD_set', getD_set']
      by_cases hij : i = j
      · subst hij
        rw [if_pos ⟨rfl, by omega⟩, if_pos ⟨rfl, by simp; omega⟩]
      · rw [if_neg (fun (x : i = j ∧ j < S.leaves.length) => hij x.1), if_neg (fun (x : i = j ∧ j < (P.hand.set i false).length) => hij x.1), getD_set', if_neg (fun (x : i = j ∧ j < P.hand.length) => hij x.1)]
        exact C.has j hj
    · show ((S.leaves.set i _).getD j default).hand = _
      have hh : ((P.hand.set i false).set i true).getD j false = true := hh
      unfold frontItem
      simp only
      rw [getD_set']
      rw [getD_set'] at hh
      rw [getD_set' P.given]
      by_cases hij : i = j
      · subst hij
        rw [if_pos ⟨rfl, by omega⟩, if_pos ⟨rfl, by omega⟩]
        rfl
      · rw [if_neg (fun (x : i = j ∧ j < S.leaves.length) => hij x.1), if_neg (fun (x : i = j ∧ j < P.given.length) => hij x.1)]
        rw [if_neg (fun (x : i = j ∧ j < (P.hand.set i false).length) => hij x.1), getD_set', if_neg (fun (x : i = j ∧ j < P.hand.length) => hij x.1)] at hh
        exact C.hand j hj hh
  · by_cases hf : (fd.getD i default).fail = 0
    · left
      simp only [if_neg hlt, if_pos hf, ne_eq, not_true, if_false] at hg ⊢
      refine ⟨_, _, rfl, ⟨by simpa using hl, ?_, rfl, hg, fun j hj => ?_, fun j hj hh => ?_⟩, he, trivial⟩
      · show P.given.set i (P.given.getD i 0) = P.given
        rw [List.getD_eq_getElem?_getD, List.getElem?_eq_getElem (by omega)]
        simp
      · show ((S.leaves.set i _).getD j default).has = (P.hand.set i false).getD j false
        rw [getD_set' S.leaves, getD_set' P.hand]
        by_cases hij : i = j
        · subst hij
          rw [if_pos (⟨rfl, by omega⟩ : i = i ∧ i < S.leaves.length), if_pos (⟨rfl, by omega⟩ : i = i ∧ i < P.hand.length)]
        · rw [if_neg (fun (x : i = j ∧ j < S.leaves.length) => hij x.1), if_neg (fun (x : i = j ∧ j < P.hand.length) => hij x.1)]
          exact C.has j hj
      · show ((S.leaves.set i _).getD j default).hand = _
        have hh : (P.hand.set i false).getD j false = true := hh
        rw [getD_set'] at hh
        by_cases hij : i = j
        · subst hij
          rw [if_pos ⟨rfl, by omega⟩] at hh
          cases hh
        · rw [if_neg (fun (x : i = j ∧ j < P.hand.length) => hij x.1)] at hh
          rw [getD_set', if_neg (fun (x : i = j ∧ j < S.leaves.length) => hij x.1)]
          exact C.hand j hj hh
    · right
      simp only [if_neg hlt, if_neg hf, ne_eq, hf, not_false_eq_true, if_true, if_false]
      refine ⟨_, _, rfl, hf, ?_, ?_, ?_⟩ <;> first | rfl | trivial

theorem askAll_same {fd : List Feed} (n : Nat) : ∀ {S : TS} {s : GS} {P : PS} (_ : Corr fd S s P) (_ : P.err = 0) (i : Nat), i + n ≤ fd.length →
    (∃ lv s1, askAllF (gaugeE fd) n S s i = (true, { S with leaves := lv }, s1) ∧ Corr fd { S with leaves := lv } s1 (playAskAllF fd n P i) ∧ (playAskAllF fd n P i).err = 0 ∧ (playAskAllF fd n P i).at_ = P.at_) ∨
    (∃ S1 s1, askAllF (gaugeE fd) n S s i = (false, S1, s1) ∧ S1.err ≠ 0 ∧ s1.asked = (playAskAllF fd n P i).asked ∧ (playAskAllF fd n P i).err = S1.err ∧ (playAskAllF fd n P i).at_ = S1.at_) := by
  induction n with
  | zero => intro S s P C he i hi; exact .inl ⟨S.leaves, s, rfl, C, he, rfl⟩
  | succ n ih =>
    intro S s P C he i hi
    rw [playAskAllF_go fd n P i he]
    rcases ask_same C he i (by omega) with ⟨lf, s1, h1, h2, h3, h4⟩ | ⟨e, s1, h1, h2, h3, h4, h5⟩
    · rcases ih h2 h3 (i + 1) (by omega) with ⟨lv, s2, g1, g2, g3, g4⟩ | ⟨S2, s2, g1, g2, g3, g4, g5⟩
      · left
        refine ⟨lv, s2, ?_, g2, g3, g4.trans h4⟩
        rw [askAllF, h1]
        simp only [if_true]
        exact g1
      · right
        refine ⟨S2, s2, ?_, g2, g3, g4, g5⟩
        rw [askAllF, h1]
        simp only [if_true]
        exact g1
    · right
      rw [playAskAllF_stop fd n _ _ (by rw [h4]; exact h2)]
      refine ⟨{ S with err := e, at_ := i }, s1, ?_, ?_, h3, h4, h5⟩
      · rw [askAllF, h1]
        rfl
      · exact h2
end Go.Proofs.Ytmhdalalicomkaa
