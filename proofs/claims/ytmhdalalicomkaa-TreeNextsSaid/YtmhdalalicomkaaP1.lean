/- Plain law: the tree of losers finds the least leaf. -/
import Derived.Test.YtmhdalalicomkaaB1
namespace Go.Proofs.Ytmhdalalicomkaa

def lkey (lv : List Leaf) (i : Nat) : Int := (lv.getD i default).hand.1
def lhas (lv : List Leaf) (i : Nat) : Bool := (lv.getD i default).has
def ahead (lv : List Leaf) (a b : Nat) : Bool :=
  if lhas lv a && lhas lv b then decide (lkey lv a < lkey lv b) || (decide (lkey lv a = lkey lv b) && decide (a < b)) else lhas lv a || (!lhas lv b && decide (a < b))

theorem ahead_total (lv : List Leaf) (a b : Nat) (h : a ≠ b) : ahead lv a b = !ahead lv b a := by
  unfold ahead
  cases lhas lv a <;> cases lhas lv b <;> simp
  · by_cases h1 : a < b
    · have : ¬ b < a := by omega
      simp [h1, this]
    · have : b < a := by omega
      simp [h1, this]
  · by_cases h1 : lkey lv a < lkey lv b
    · have : ¬ lkey lv b < lkey lv a := by omega
      have h3 : ¬ lkey lv b = lkey lv a := by omega
      simp [h1, this, h3]
    · by_cases h2 : lkey lv b < lkey lv a
      · have h3 : ¬ lkey lv a = lkey lv b := by omega
        simp [h1, h2, h3]
      · have h3 : lkey lv a = lkey lv b := by omega
        by_cases h4 : a < b
        · have : ¬ b < a := by omega
          simp [h3, h4, this]
        · have : b < a := by omega
          simp [h3, h4, this]
theorem ahead_trans (lv : List Leaf) (a b c : Nat) (h1 : ahead lv a b = true) (h2 : ahead lv b c = true) : ahead lv a c = true := by
  unfold ahead at *
  cases ha : lhas lv a <;> cases hb : lhas lv b <;> cases hc : lhas lv c <;> simp [ha, hb, hc] at h1 h2 ⊢ <;> omega

/-- The winner below a node. -/
def W (lv : List Leaf) (node : Nat) : Nat :=
  if node = 0 ∨ lv.length ≤ node then node - lv.length
  else if ahead lv (W lv (2 * node + 1)) (W lv (2 * node)) then W lv (2 * node + 1) else W lv (2 * node)
termination_by lv.length - node
decreasing_by all_goals omega
/-- Who lost at a node. -/
def Lo (lv : List Leaf) (node : Nat) : Nat := if ahead lv (W lv (2 * node + 1)) (W lv (2 * node)) then W lv (2 * node) else W lv (2 * node + 1)

theorem W_leaf (lv : List Leaf) (node : Nat) (h : lv.length ≤ node) : W lv node = node - lv.length := by rw [W, if_pos (.inr h)]
theorem W_node (lv : List Leaf) (node : Nat) (h0 : 0 < node) (h : node < lv.length) : W lv node = if ahead lv (W lv (2 * node + 1)) (W lv (2 * node)) then W lv (2 * node + 1) else W lv (2 * node) := by
  rw [W, if_neg (by omega)]

/-- m stands below node (or is it). -/
def Below' (node m : Nat) : Prop := ∃ d, m / 2 ^ d = node

theorem below_refl (node : Nat) : Below' node node := ⟨0, by simp⟩
theorem below_one (m : Nat) (h : 0 < m) : Below' 1 m := by
  refine ⟨Nat.log2 m, ?_⟩
  have h1 := Nat.log2_self_le (n := m) (by omega)
  have h2 := Nat.lt_log2_self (n := m)
  rw [Nat.div_eq_iff (by exact Nat.two_pow_pos _)]
  rw [Nat.pow_succ] at h2
  omega
theorem below_left {node m : Nat} (h : Below' (2 * node) m) : Below' node m := by
  obtain ⟨d, hd⟩ := h
  exact ⟨d + 1, by rw [Nat.pow_succ, ← Nat.div_div_eq_div_mul, hd]; omega⟩
theorem below_right {node m : Nat} (h : Below' (2 * node + 1) m) : Below' node m := by
  obtain ⟨d, hd⟩ := h
  exact ⟨d + 1, by rw [Nat.pow_succ, ← Nat.div_div_eq_div_mul, hd]; omega⟩
theorem below_cases {node m : Nat} (h : Below' node m) : m = node ∨ Below' (2 * node) m ∨ Below' (2 * node + 1) m := by
  obtain ⟨d, hd⟩ := h
  cases d with
  | zero => left; simpa using hd
  | succ d =>
    rw [Nat.pow_succ, ← Nat.div_div_eq_div_mul] at hd
    rcases (show m / 2 ^ d = 2 * node ∨ m / 2 ^ d = 2 * node + 1 by omega) with h1 | h1
    · exact .inr (.inl ⟨d, h1⟩)
    · exact .inr (.inr ⟨d, h1⟩)
theorem below_le {node m : Nat} (h : Below' node m) : node ≤ m := by
  obtain ⟨d, hd⟩ := h
  rw [← hd]; exact Nat.div_le_self _ _
theorem below_half {node m : Nat} (h : Below' node m) (hn : m ≠ node) : Below' node (m / 2) := by
  obtain ⟨d, hd⟩ := h
  cases d with
  | zero => exact absurd (by simpa using hd) hn
  | succ d => exact ⟨d, by rw [Nat.pow_succ, Nat.mul_comm, ← Nat.div_div_eq_div_mul] at hd; exact hd⟩
/-- No node stands below both children. -/
theorem below_apart {node m : Nat} (h0 : 0 < node) (h1 : Below' (2 * node) m) (h2 : Below' (2 * node + 1) m) : False := by
  obtain ⟨d, hd⟩ := h1
  obtain ⟨e, he⟩ := h2
  rcases Nat.lt_trichotomy d e with h | h | h
  · obtain ⟨c, rfl⟩ : ∃ c, e = d + 1 + c := ⟨e - d - 1, by omega⟩
    rw [show d + 1 + c = d + (1 + c) by omega, Nat.pow_add, ← Nat.div_div_eq_div_mul, hd, Nat.pow_add, ← Nat.div_div_eq_div_mul] at he
    have := Nat.div_le_self (2 * node / 2 ^ 1) (2 ^ c)
    omega
  · subst h; omega
  · obtain ⟨c, rfl⟩ : ∃ c, d = e + 1 + c := ⟨d - e - 1, by omega⟩
    rw [show e + 1 + c = e + (1 + c) by omega, Nat.pow_add, ← Nat.div_div_eq_div_mul, he, Nat.pow_add, ← Nat.div_div_eq_div_mul] at hd
    have := Nat.div_le_self ((2 * node + 1) / 2 ^ 1) (2 ^ c)
    omega

/-- The winner is a leaf below the node, and none there is ahead of it. -/
theorem W_spec (lv : List Leaf) (n : Nat) : ∀ node, 0 < node → node < 2 * lv.length → lv.length ≤ node + n →
    W lv node < lv.length ∧ Below' node (W lv node + lv.length) ∧ ∀ i, i < lv.length → Below' node (i + lv.length) → i = W lv node ∨ ahead lv (W lv node) i = true := by
  induction n with
  | zero =>
    intro node h0 h1 h2
    rw [W_leaf lv node (by omega)]
    refine ⟨by omega, by rw [show node - lv.length + lv.length = node by omega]; exact below_refl _, fun i hi hb => .inl ?_⟩
    rcases below_cases hb with h | h | h
    · omega
    · have := below_le h; omega
    · have := below_le h; omega
  | succ n ih =>
    intro node h0 h1 h2
    by_cases hn : lv.length ≤ node
    · rw [W_leaf lv node hn]
      refine ⟨by omega, by rw [show node - lv.length + lv.length = node by omega]; exact below_refl _, fun i hi hb => .inl ?_⟩
      rcases below_cases hb with h | h | h
      · omega
      · have := below_le h; omega
      · have := below_le h; omega
    · obtain ⟨a1, a2, a3⟩ := ih (2 * node) (by omega) (by omega) (by omega)
      obtain ⟨b1, b2, b3⟩ := ih (2 * node + 1) (by omega) (by omega) (by omega)
      have hne : W lv (2 * node) ≠ W lv (2 * node + 1) := fun e => below_apart h0 a2 (e ▸ b2)
      rw [W_node lv node h0 (by omega)]
      by_cases hab : ahead lv (W lv (2 * node + 1)) (W lv (2 * node)) = true
      · rw [if_pos hab]
        refine ⟨b1, below_right b2, fun i hi hb => ?_⟩
        rcases below_cases hb with h | h | h
        · omega
        · rcases a3 i hi h with rfl | h
          · exact .inr hab
          · exact .inr (ahead_trans lv _ _ _ hab h)
        · exact b3 i hi h
      · rw [if_neg hab]
        have hba : ahead lv (W lv (2 * node)) (W lv (2 * node + 1)) = true := by rw [ahead_total lv _ _ hne]; simpa using hab
        refine ⟨a1, below_left a2, fun i hi hb => ?_⟩
        rcases below_cases hb with h | h | h
        · omega
        · exact a3 i hi h
        · rcases b3 i hi h with rfl | h
          · exact .inr hba
          · exact .inr (ahead_trans lv _ _ _ hba h)

/-- The tree's slots are right. -/
structure Tour (lv : List Leaf) (ls : List Nat) (win : Nat) : Prop where
  los : ∀ m, 0 < m → m < lv.length → ls.getD m 0 = Lo lv m
  win : win = W lv 1
end Go.Proofs.Ytmhdalalicomkaa
