/- Plain law: play and replay lay the tree right. -/
import Derived.Test.YtmhdalalicomkaaP1
namespace Go.Proofs.Ytmhdalalicomkaa
variable {σ : Type}

/-- The order is the one by key; it changes nothing. -/
def PureOrd (E : Sys σ) : Prop := ∀ lv cmp s a b, (beatsF E lv cmp s a b).1 = ahead lv a b ∧ (beatsF E lv cmp s a b).2.2 = s

theorem getD_set' {α : Type} (l : List α) (i j : Nat) (v d : α) : (l.set i v).getD j d = if i = j ∧ j < l.length then v else l.getD j d := by
  simp only [List.getD_eq_getElem?_getD]
  by_cases h : i = j
  · subst h
    by_cases hl : i < l.length
    · rw [List.getElem?_set_self hl, if_pos ⟨rfl, hl⟩]; rfl
    · rw [if_neg (fun h => hl h.2), List.set_eq_of_length_le (by omega)]
  · rw [List.getElem?_set_ne h, if_neg (fun h' => h h'.1)]

theorem playF_right {E : Sys σ} (hE : PureOrd E) (lv : List Leaf) (f : Nat) : ∀ (node : Nat) (ls : List Nat) (cmp : Int) (s : σ), 0 < node → node < 2 * lv.length → lv.length ≤ node * 2 ^ f → ls.length = lv.length →
    (playF E lv f node ls cmp s).1 = W lv node ∧ (playF E lv f node ls cmp s).2.1.length = lv.length ∧ (playF E lv f node ls cmp s).2.2.2 = s ∧
    (∀ m, Below' node m → m < lv.length → (playF E lv f node ls cmp s).2.1.getD m 0 = Lo lv m) ∧ (∀ m, ¬ Below' node m → (playF E lv f node ls cmp s).2.1.getD m 0 = ls.getD m 0) := by
  induction f with
  | zero =>
    intro node ls cmp s h0 h1 h2 h3
    simp only [Nat.pow_zero, Nat.mul_one] at h2
    rw [W_leaf lv node h2]
    refine ⟨rfl, h3, rfl, fun m hb hm => ?_, fun m _ => rfl⟩
    have := below_le hb
    omega
  | succ f ih =>
    intro node ls cmp s h0 h1 h2 h3
    unfold playF
    by_cases hn : lv.length ≤ node
    · rw [if_pos hn, W_leaf lv node hn]
      refine ⟨rfl, h3, rfl, fun m hb hm => ?_, fun m _ => rfl⟩
      have := below_le hb
      omega
    · rw [if_neg hn]
      have hp : lv.length ≤ 2 * node * 2 ^ f := by rw [Nat.pow_succ] at h2; rw [show 2 * node * 2 ^ f = node * (2 ^ f * 2) by rw [Nat.mul_comm 2 node, Nat.mul_assoc, Nat.mul_comm 2]]; exact h2
      have hp' : lv.length ≤ (2 * node + 1) * 2 ^ f := Nat.le_trans hp (Nat.mul_le_mul_right _ (by omega))
      have hl := ih (2 * node) ls cmp s (by omega) (by omega) hp h3
      generalize playF E lv f (2 * node) ls cmp s = p at hl ⊢
      obtain ⟨p1, p2, p3, p4⟩ := p
      simp only at hl ⊢
      obtain ⟨rfl, a2, rfl, a4, a5⟩ := hl
      have hr := ih (2 * node + 1) p2 p3 p4 (by omega) (by omega) hp' a2
      generalize playF E lv f (2 * node + 1) p2 p3 p4 = q at hr ⊢
      obtain ⟨q1, q2, q3, q4⟩ := q
      simp only at hr ⊢
      obtain ⟨rfl, b2, rfl, b4, b5⟩ := hr
      obtain ⟨c1, c2⟩ := hE lv q3 q4 (W lv (2 * node + 1)) (W lv (2 * node))
      generalize beatsF E lv q3 q4 (W lv (2 * node + 1)) (W lv (2 * node)) = r at c1 c2 ⊢
      obtain ⟨r1, r2, r3⟩ := r
      simp only at c1 c2 ⊢
      subst c1 c2
      have hset : ∀ v, (∀ m, Below' node m → m < lv.length → m ≠ node → (q2.set node v).getD m 0 = Lo lv m) ∧ (∀ m, ¬ Below' node m → (q2.set node v).getD m 0 = ls.getD m 0) := by
        intro v
        refine ⟨fun m hb hm hne => ?_, fun m hb => ?_⟩
        · rw [getD_set', if_neg (fun (h : node = m ∧ m < q2.length) => hne h.1.symm)]
          rcases below_cases hb with h | h | h
          · exact absurd h hne
          · rw [b5 m (fun h' => below_apart h0 h h')]
            exact a4 m h hm
          · exact b4 m h hm
        · rw [getD_set', if_neg (fun (h : node = m ∧ m < q2.length) => hb (h.1 ▸ below_refl _)), b5 m (fun h => hb (below_right h)), a5 m (fun h => hb (below_left h))]
      have hW := W_node lv node h0 (by omega)
      by_cases hab : ahead lv (W lv (2 * node + 1)) (W lv (2 * node)) = true
      · rw [if_pos hab]
        rw [if_pos hab] at hW
        refine ⟨hW.symm, by simpa using b2, rfl, fun m hb hm => ?_, (hset _).2⟩
        by_cases hmn : m = node
        · subst hmn
          simp only
          rw [getD_set', if_pos ⟨rfl, by omega⟩, Lo, if_pos hab]
        · exact (hset _).1 m hb hm hmn
      · rw [if_neg hab]
        rw [if_neg hab] at hW
        refine ⟨hW.symm, by simpa using b2, rfl, fun m hb hm => ?_, (hset _).2⟩
        by_cases hmn : m = node
        · subst hmn
          simp only
          rw [getD_set', if_pos ⟨rfl, by omega⟩, Lo, if_neg hab]
        · exact (hset _).1 m hb hm hmn

/-- Two rows of leaves that part at one leaf alone. -/
structure Same (lv lv' : List Leaf) (i : Nat) : Prop where
  len : lv'.length = lv.length
  eq : ∀ j, j ≠ i → lv'.getD j default = lv.getD j default
theorem Same.ahead {lv lv' : List Leaf} {i a b : Nat} (h : Same lv lv' i) (ha : a ≠ i) (hb : b ≠ i) : ahead lv' a b = ahead lv a b := by
  unfold Proofs.Ytmhdalalicomkaa.ahead lhas lkey
  rw [h.eq a ha, h.eq b hb]

theorem Same.W {lv lv' : List Leaf} {i : Nat} (h : Same lv lv' i) (n : Nat) : ∀ node, 0 < node → node < 2 * lv.length → lv.length ≤ node + n → ¬ Below' node (i + lv.length) → W lv' node = W lv node := by
  induction n with
  | zero =>
    intro node h0 h1 h2 hb
    rw [W_leaf lv node (by omega), W_leaf lv' node (by rw [h.len]; omega), h.len]
  | succ n ih =>
    intro node h0 h1 h2 hb
    by_cases hn : lv.length ≤ node
    · rw [W_leaf lv node hn, W_leaf lv' node (by rw [h.len]; omega), h.len]
    · have hl := ih (2 * node) (by omega) (by omega) (by omega) (fun x => hb (below_left x))
      have hr := ih (2 * node + 1) (by omega) (by omega) (by omega) (fun x => hb (below_right x))
      obtain ⟨a1, a2, -⟩ := W_spec lv lv.length (2 * node) (by omega) (by omega) (by omega)
      obtain ⟨b1, b2, -⟩ := W_spec lv lv.length (2 * node + 1) (by omega) (by omega) (by omega)
      have na : Proofs.Ytmhdalalicomkaa.W lv (2 * node) ≠ i := fun e => hb (below_left (e ▸ a2))
      have nb : Proofs.Ytmhdalalicomkaa.W lv (2 * node + 1) ≠ i := fun e => hb (below_right (e ▸ b2))
      rw [W_node lv node h0 (by omega), W_node lv' node h0 (by rw [h.len]; omega), hl, hr, h.ahead nb na]
theorem Same.Lo {lv lv' : List Leaf} {i : Nat} (h : Same lv lv' i) (node : Nat) (h0 : 0 < node) (h1 : node < lv.length) (hb : ¬ Below' node (i + lv.length)) : Lo lv' node = Lo lv node := by
  obtain ⟨a1, a2, -⟩ := W_spec lv lv.length (2 * node) (by omega) (by omega) (by omega)
  obtain ⟨b1, b2, -⟩ := W_spec lv lv.length (2 * node + 1) (by omega) (by omega) (by omega)
  have na : Proofs.Ytmhdalalicomkaa.W lv (2 * node) ≠ i := fun e => hb (below_left (e ▸ a2))
  have nb : Proofs.Ytmhdalalicomkaa.W lv (2 * node + 1) ≠ i := fun e => hb (below_right (e ▸ b2))
  unfold Proofs.Ytmhdalalicomkaa.Lo
  rw [h.W lv.length (2 * node) (by omega) (by omega) (by omega) (fun x => hb (below_left x)), h.W lv.length (2 * node + 1) (by omega) (by omega) (by omega) (fun x => hb (below_right x)), h.ahead nb na]

/-- The winner of all wins wherever it stands. -/
theorem W_path (lv : List Leaf) (i node : Nat) (hk : 0 < lv.length) (hw : W lv 1 = i) (h0 : 0 < node) (h1 : node < 2 * lv.length) (hb : Below' node (i + lv.length)) : W lv node = i := by
  obtain ⟨a1, -, a3⟩ := W_spec lv lv.length 1 (by omega) (by omega) (by omega)
  obtain ⟨b1, -, b3⟩ := W_spec lv lv.length node h0 h1 (by omega)
  rw [hw] at a1 a3
  rcases b3 i a1 hb with h | h
  · exact h.symm
  · rcases a3 (W lv node) b1 (below_one _ (by omega)) with h' | h'
    · exact h'
    · by_cases hne : W lv node = i
      · exact hne
      · rw [ahead_total lv _ _ hne, h'] at h
        cases h
end Go.Proofs.Ytmhdalalicomkaa
