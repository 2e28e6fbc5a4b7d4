/- Plain law: a leaf with a new hand goes up. -/
import Derived.Test.YtmhdalalicomkaaP2
namespace Go.Proofs.Ytmhdalalicomkaa
variable {σ : Type}

/-- What lost at a node of the winner's path: the winner of the other child; it stands so still. -/
theorem path_loser {lv lv' : List Leaf} {i : Nat} (h : Same lv lv' i) (hw : W lv 1 = i) (c : Nat) (h2 : 2 ≤ c) (hc : c < 2 * lv.length) (hb : Below' c (i + lv.length)) :
    ∃ o, Lo lv (c / 2) = W lv' o ∧ W lv' o ≠ W lv' c ∧ (W lv' (c / 2) = if ahead lv' (W lv' o) (W lv' c) then W lv' o else W lv' c) ∧ (Lo lv' (c / 2) = if ahead lv' (W lv' o) (W lv' c) then W lv' c else W lv' o) := by
  have hk : 0 < lv.length := by omega
  have hlen := h.len
  rcases (show c = 2 * (c / 2) ∨ c = 2 * (c / 2) + 1 by omega) with e | e
  · refine ⟨2 * (c / 2) + 1, ?_⟩
    have hn0 : 0 < c / 2 := by omega
    have hnk : c / 2 < lv.length := by omega
    generalize c / 2 = n at *
    subst e
    have hno : ¬ Below' (2 * n + 1) (i + lv.length) := fun x => below_apart hn0 hb x
    have e1 := W_path lv i (2 * n) hk hw (by omega) (by omega) hb
    have e2 := W_path lv i n hk hw hn0 (by omega) (below_left hb)
    have e3 := h.W lv.length (2 * n + 1) (by omega) (by omega) (by omega) hno
    obtain ⟨b1, b2, -⟩ := W_spec lv' lv'.length (2 * n) (by omega) (by omega) (by omega)
    obtain ⟨d1, d2, -⟩ := W_spec lv' lv'.length (2 * n + 1) (by omega) (by omega) (by omega)
    obtain ⟨f1, f2, -⟩ := W_spec lv lv.length (2 * n + 1) (by omega) (by omega) (by omega)
    have hne : W lv' (2 * n + 1) ≠ W lv' (2 * n) := fun x => below_apart hn0 b2 (x ▸ d2)
    have hni : W lv (2 * n + 1) ≠ i := fun x => hno (x ▸ f2)
    have hL : Lo lv n = W lv (2 * n + 1) := by
      rw [W_node lv n hn0 hnk] at e2
      unfold Lo
      split
      · rename_i hx
        rw [if_pos hx] at e2
        exact absurd e2 hni
      · rfl
    refine ⟨by rw [hL, e3], hne, ?_, rfl⟩
    rw [W_node lv' n hn0 (by omega)]
  · refine ⟨2 * (c / 2), ?_⟩
    have hn0 : 0 < c / 2 := by omega
    have hnk : c / 2 < lv.length := by omega
    generalize c / 2 = n at *
    subst e
    have hno : ¬ Below' (2 * n) (i + lv.length) := fun x => below_apart hn0 x hb
    have e1 := W_path lv i (2 * n + 1) hk hw (by omega) (by omega) hb
    have e2 := W_path lv i n hk hw hn0 (by omega) (below_right hb)
    have e3 := h.W lv.length (2 * n) (by omega) (by omega) (by omega) hno
    obtain ⟨b1, b2, -⟩ := W_spec lv' lv'.length (2 * n) (by omega) (by omega) (by omega)
    obtain ⟨d1, d2, -⟩ := W_spec lv' lv'.length (2 * n + 1) (by omega) (by omega) (by omega)
    obtain ⟨f1, f2, -⟩ := W_spec lv lv.length (2 * n) (by omega) (by omega) (by omega)
    have hne : W lv' (2 * n) ≠ W lv' (2 * n + 1) := fun x => below_apart hn0 b2 (x ▸ d2)
    have hni : W lv (2 * n) ≠ i := fun x => hno (x ▸ f2)
    have hL : Lo lv n = W lv (2 * n) := by
      rw [W_node lv n hn0 hnk] at e2
      unfold Lo
      split
      · rfl
      · rename_i hx
        rw [if_neg hx] at e2
        exact absurd e2 hni
    have ht := ahead_total lv' (W lv' (2 * n)) (W lv' (2 * n + 1)) hne
    refine ⟨by rw [hL, e3], hne, ?_, ?_⟩
    · rw [W_node lv' n hn0 (by omega)]
      cases hx : ahead lv' (W lv' (2 * n + 1)) (W lv' (2 * n)) <;> rw [hx] at ht <;> simp [ht]
    · unfold Lo
      cases hx : ahead lv' (W lv' (2 * n + 1)) (W lv' (2 * n)) <;> rw [hx] at ht <;> simp [ht]

theorem upF_right {E : Sys σ} (hE : PureOrd E) {lv lv' : List Leaf} {i : Nat} (h : Same lv lv' i) (hw : W lv 1 = i) (f : Nat) : ∀ (c : Nat) (ls : List Nat) (cmp : Int) (s : σ), 0 < c → c < 2 * lv.length → Below' c (i + lv.length) → c / 2 < 2 ^ f → ls.length = lv.length →
    (∀ m, 0 < m → m < lv.length → Below' m (i + lv.length) → m < c → ls.getD m 0 = Lo lv m) → (∀ m, 0 < m → m < lv.length → ¬ (Below' m (i + lv.length) ∧ m < c) → ls.getD m 0 = Lo lv' m) →
    (upF E lv' f (c / 2) (W lv' c) ls cmp s).1 = W lv' 1 ∧ (upF E lv' f (c / 2) (W lv' c) ls cmp s).2.1.length = lv.length ∧ (upF E lv' f (c / 2) (W lv' c) ls cmp s).2.2.2 = s ∧
    ∀ m, 0 < m → m < lv.length → (upF E lv' f (c / 2) (W lv' c) ls cmp s).2.1.getD m 0 = Lo lv' m := by
  have fin : ∀ (c : Nat) (ls : List Nat), 0 < c → c / 2 = 0 → (∀ m, 0 < m → m < lv.length → ¬ (Below' m (i + lv.length) ∧ m < c) → ls.getD m 0 = Lo lv' m) → c = 1 ∧ ∀ m, 0 < m → m < lv.length → ls.getD m 0 = Lo lv' m := by
    intro c ls h0 hc hl
    obtain rfl : c = 1 := by omega
    exact ⟨rfl, fun m h1 h2 => hl m h1 h2 (fun x => by omega)⟩
  induction f with
  | zero =>
    intro c ls cmp s h0 hc hb hf hl hp hd
    obtain ⟨rfl, h1⟩ := fin c ls h0 (by simpa using hf) hd
    exact ⟨rfl, hl, rfl, h1⟩
  | succ f ih =>
    intro c ls cmp s h0 hc hb hf hl hp hd
    unfold upF
    by_cases hc0 : c / 2 = 0
    · rw [if_pos hc0]
      obtain ⟨rfl, h1⟩ := fin c ls h0 hc0 hd
      exact ⟨rfl, hl, rfl, h1⟩
    · rw [if_neg hc0]
      have h2 : 2 ≤ c := by omega
      have hbn : Below' (c / 2) (i + lv.length) := by
        rcases (show c = 2 * (c / 2) ∨ c = 2 * (c / 2) + 1 by omega) with e | e
        · exact below_left (e ▸ hb)
        · exact below_right (e ▸ hb)
      obtain ⟨o, o1, o2, o3, o4⟩ := path_loser h hw c h2 hc hb
      have hls : ls.getD (c / 2) 0 = W lv' o := by rw [hp (c / 2) (by omega) (by omega) hbn (by omega), o1]
      rw [hls]
      obtain ⟨c1, c2⟩ := hE lv' cmp s (W lv' o) (W lv' c)
      generalize beatsF E lv' cmp s (W lv' o) (W lv' c) = r at c1 c2 ⊢
      obtain ⟨r1, r2, r3⟩ := r
      simp only at c1 c2 ⊢
      subst c1 c2
      have hf' : c / 2 / 2 < 2 ^ f := by rw [Nat.pow_succ] at hf; omega
      cases hx : ahead lv' (W lv' o) (W lv' c) with
      | true =>
        rw [hx] at o3 o4
        simp only [if_true] at o3 o4 ⊢
        rw [← o3]
        refine ih (c / 2) _ r2 r3 (by omega) (by omega) hbn hf' (by simpa using hl) (fun m m1 m2 m3 m4 => ?_) (fun m m1 m2 m3 => ?_)
        · rw [getD_set', if_neg (fun (x : c / 2 = m ∧ m < ls.length) => by omega)]
          exact hp m m1 m2 m3 (by omega)
        · rw [getD_set']
          by_cases hm : c / 2 = m
          · rw [if_pos ⟨hm, by omega⟩, ← hm, o4]
          · rw [if_neg (fun (x : c / 2 = m ∧ m < ls.length) => hm x.1)]
            refine hd m m1 m2 (fun x => ?_)
            by_cases hlt : m < c / 2
            · exact m3 ⟨x.1, hlt⟩
            · exact absurd x.2 (by
                intro hmc
                -- m between c/2 and c on the path: impossible
                obtain ⟨d, hd'⟩ := x.1
                obtain ⟨e, he⟩ := hb
                rcases Nat.lt_trichotomy d e with q | q | q
                · obtain ⟨z, rfl⟩ : ∃ z, e = d + z := ⟨e - d, by omega⟩
                  rw [Nat.pow_add, ← Nat.div_div_eq_div_mul, hd'] at he
                  have := Nat.div_le_self m (2 ^ z)
                  omega
                · subst q; omega
                · obtain ⟨z, rfl⟩ : ∃ z, d = e + 1 + z := ⟨d - e - 1, by omega⟩
                  rw [show e + 1 + z = e + (1 + z) by omega, Nat.pow_add, ← Nat.div_div_eq_div_mul, he, Nat.pow_add, ← Nat.div_div_eq_div_mul] at hd'
                  have := Nat.div_le_self (c / 2 ^ 1) (2 ^ z)
                  omega)
      | false =>
        rw [hx] at o3 o4
        simp only [Bool.false_eq_true, if_false] at o3 o4 ⊢
        rw [← o3]
        refine ih (c / 2) _ r2 r3 (by omega) (by omega) hbn hf' hl (fun m m1 m2 m3 m4 => hp m m1 m2 m3 (by omega)) (fun m m1 m2 m3 => ?_)
        by_cases hm : c / 2 = m
        · rw [← hm, hls, o4]
        · refine hd m m1 m2 (fun x => ?_)
          by_cases hlt : m < c / 2
          · exact m3 ⟨x.1, hlt⟩
          · exact absurd x.2 (by
              intro hmc
              obtain ⟨d, hd'⟩ := x.1
              obtain ⟨e, he⟩ := hb
              rcases Nat.lt_trichotomy d e with q | q | q
              · obtain ⟨z, rfl⟩ : ∃ z, e = d + z := ⟨e - d, by omega⟩
                rw [Nat.pow_add, ← Nat.div_div_eq_div_mul, hd'] at he
                have := Nat.div_le_self m (2 ^ z)
                omega
              · subst q; omega
              · obtain ⟨z, rfl⟩ : ∃ z, d = e + 1 + z := ⟨d - e - 1, by omega⟩
                rw [show e + 1 + z = e + (1 + z) by omega, Nat.pow_add, ← Nat.div_div_eq_div_mul, he, Nat.pow_add, ← Nat.div_div_eq_div_mul] at hd'
                have := Nat.div_le_self (c / 2 ^ 1) (2 ^ z)
                omega)
end Go.Proofs.Ytmhdalalicomkaa
