/- The tree's walks: play. -/
import Derived.Test.YtmhdalalicomkaaB3
namespace Go.Proofs.Ytmhdalalicomkaa
open Go.RowKit
variable {σ : Type} {E : Sys σ} {B0 t L M k : Nat} {F : σ → World → Nat → Prop} {I : Nat → σ → World → Prop} {gs : Nat → FuncId} {lbs : Nat → Array Value} {og : FuncId} {ob : Array Value}

def bud : Nat → Nat
  | 0 => 0
  | f + 1 => bud f + bud f + 1

theorem EnvOk.down (H : EnvOk E B0 t L M k F I gs lbs og ob) {n m : Nat} (h : n ≤ m) {s : σ} {w : World} (hI : I m s w) : I n s w := by
  induction m with
  | zero => obtain rfl : n = 0 := by omega
            exact hI
  | succ m ih =>
    rcases Nat.lt_or_ge n (m + 1) with h1 | h1
    · exact ih (by omega) (H.mono _ _ _ hI)
    · obtain rfl : n = m + 1 := by omega
      exact hI

theorem playF_lt (E : Sys σ) (lv : List Leaf) : ∀ f node ls cmp s, 1 ≤ node → node < 2 * lv.length → lv.length ≤ node * 2 ^ f → (playF E lv f node ls cmp s).1 < lv.length := by
  intro f
  induction f with
  | zero => intro node ls cmp s h1 h2 h3; simp only [playF]; omega
  | succ f ih =>
    intro node ls cmp s h1 h2 h3
    simp only [playF]
    by_cases h : lv.length ≤ node
    · rw [if_pos h]; simp only; omega
    · rw [if_neg h]
      have e1 : 2 * node * 2 ^ f = node * 2 ^ (f + 1) := by rw [Nat.pow_succ]; ac_rfl
      have a := ih (2 * node) ls cmp s (by omega) (by omega) (by omega)
      have b := ih (2 * node + 1) (playF E lv f (2 * node) ls cmp s).2.1 (playF E lv f (2 * node) ls cmp s).2.2.1 (playF E lv f (2 * node) ls cmp s).2.2.2 (by omega) (by omega) (by rw [Nat.add_mul]; omega)
      split
      · exact b
      · exact a

theorem playF_len (E : Sys σ) (lv : List Leaf) : ∀ f node ls cmp s, (playF E lv f node ls cmp s).2.1.length = ls.length := by
  intro f
  induction f with
  | zero => intro node ls cmp s; simp only [playF]
  | succ f ih =>
    intro node ls cmp s
    simp only [playF]
    split
    · rfl
    · split <;> simp only [List.length_set] <;> rw [ih, ih]

set_option maxRecDepth 100000 in
set_option maxHeartbeats 4000000 in
theorem play_leaf (node : Nat) (k kc : Nat) (w : World) (c1 : w.cell? ⟨t, 1, none⟩ = some (.slice (some ⟨L, 0, none⟩) k kc)) (h1 : k ≤ node) (h2 : node ≤ 127) (h3 : k ≤ 64) :
    Calls Try.prog 44 #[.pointer (some ⟨t, 0, none⟩), .int .i64 node] w fun e w' => e = .returned (.int .i64 (node - k : Nat)) ∧ w = w' := by
  go_enter Try.func44, Try.ntmps44
  go_wp2_with fail
  go_ret
  exact ⟨by rw [show ((node - k : Nat) : Int) = (node : Int) - k from by omega]; rfl, rfl⟩

set_option maxRecDepth 100000 in
set_option maxHeartbeats 4000000 in
theorem play_any (H : EnvOk E B0 t L M k F I gs lbs og ob) (hord : Value) (f : Nat) : ∀ (n : Nat) (s : σ) (S : TS) (node : Nat) (w : World), TreeAt w t L M S → I (n + bud f) s w → S.leaves.length = k → S.ord = .func (.func og) #[] ob →
    1 ≤ node → node < 2 * k → k ≤ node * 2 ^ f →
    Calls Try.prog 44 #[.pointer (some ⟨t, 0, none⟩), .int .i64 node] w fun e w' =>
      e = .returned (.int .i64 ((playF E S.leaves f node S.losers S.cmp s).1 : Nat)) ∧
      TreeAt w' t L M { S with losers := (playF E S.leaves f node S.losers S.cmp s).2.1, cmp := (playF E S.leaves f node S.losers S.cmp s).2.2.1 } ∧
      I n (playF E S.leaves f node S.losers S.cmp s).2.2.2 w' ∧ Fst F t L M s (playF E S.leaves f node S.losers S.cmp s).2.2.2 w w' := by
  induction f with
  | zero =>
    intro n s S node w hT hI hk hord h1 h2 h3
    obtain ⟨kc, -, c1, -⟩ := hT.cells (by omega)
    have hfew := hT.few
    refine (play_leaf node _ kc w c1 (by omega) (by omega) (by omega)).mono ?_
    rintro e w' ⟨rfl, rfl⟩
    exact ⟨rfl, hT, hI, Fst.refl _ _⟩
  | succ f ih =>
    intro n s S node w hT hI hk hord h1 h2 h3
    have hfew := hT.few
    obtain ⟨kc, -, c1, -⟩ := hT.cells (by omega)
    by_cases hn : k ≤ node
    · have e : playF E S.leaves (f + 1) node S.losers S.cmp s = (node - S.leaves.length, S.losers, S.cmp, s) := by simp only [playF]; rw [if_pos (by omega)]
      rw [e]
      refine (play_leaf node _ kc w c1 (by omega) (by omega) (by omega)).mono ?_
      rintro e w' ⟨rfl, rfl⟩
      exact ⟨rfl, hT, H.down (by omega) hI, Fst.refl _ _⟩
    · have e1 : 2 * node * 2 ^ f = node * 2 ^ (f + 1) := by rw [Nat.pow_succ]; ac_rfl
      have ih1 := ih (n + 1 + bud f) s S (2 * node) w hT (H.down (by simp only [bud]; omega) hI) hk hord (by omega) (by omega) (by omega)
      have hp1 := playF_lt E S.leaves f (2 * node) S.losers S.cmp s (by omega) (by omega) (by omega)
      have hl1 := playF_len E S.leaves f (2 * node) S.losers S.cmp s
      have hF : playF E S.leaves (f + 1) node S.losers S.cmp s = 
        (let p := playF E S.leaves f (2 * node) S.losers S.cmp s
         let q := playF E S.leaves f (2 * node + 1) p.2.1 p.2.2.1 p.2.2.2
         let r := beatsF E S.leaves q.2.2.1 q.2.2.2 q.1 p.1
         if r.1 then (q.1, q.2.1.set node p.1, r.2.1, r.2.2) else (p.1, q.2.1.set node q.1, r.2.1, r.2.2)) := by
        rw [playF, if_neg (by omega)]
      generalize hP : playF E S.leaves f (2 * node) S.losers S.cmp s = p at *
      obtain ⟨pw, pl, pc, ps⟩ := p
      have ih2 := fun w1 hT1 hI1 => ih (n + 1) ps { S with losers := pl, cmp := pc } (2 * node + 1) w1 hT1 hI1 hk hord (by omega) (by omega) (by rw [Nat.add_mul]; omega)
      have hp2 := playF_lt E S.leaves f (2 * node + 1) pl pc ps (by omega) (by omega) (by rw [Nat.add_mul]; omega)
      have hl2 := playF_len E S.leaves f (2 * node + 1) pl pc ps
      simp only at hF ih1 ih2 hp1 hl1
      generalize hQ : playF E S.leaves f (2 * node + 1) pl pc ps = q at *
      obtain ⟨qw, ql, qc, qs⟩ := q
      have hb := fun w1 hT1 hI1 => beats_any H n qs { S with losers := ql, cmp := qc } qw pw w1 hT1 hI1 hk hord (by omega) (by omega)
      simp only at hF ih2 hp2 hl2 hb
      generalize hB : beatsF E S.leaves qc qs qw pw = r at *
      obtain ⟨rb, rc, rs⟩ := r
      simp only at hF hb
      rw [hF]
      have HF := Lib.hid hF
      have HT := Lib.hid hT
      have HI := Lib.hid hI
      have Hk := Lib.hid hk
      have H' := Lib.hid H
      have HP := Lib.hid hP
      have HQ := Lib.hid hQ
      have HB := Lib.hid hB
      have HO := Lib.hid hord
      have HL1 := Lib.hid hl1
      have HL2 := Lib.hid hl2
      have E1 := Lib.hid e1
      clear hF hT hI hk H hP hQ hB hord hl1 hl2 e1 ih
      have IH1 := Lib.hid ih1
      have IH2 := Lib.hid ih2
      have HBB := Lib.hid hb
      clear ih1 ih2 hb
      rw [Hk.out] at c1 hp1 hp2 hfew
      cases rb with
      | true =>
        go_enter Try.func44, Try.ntmps44
        go_wp2_with fail
        refine IH1.out.mono ?_
        rintro e w1 ⟨rfl, hT1, hI1, hK1⟩
        have HT1 := Lib.hid hT1; have HI1 := Lib.hid hI1; have HK1 := Lib.hid hK1; clear hT1 hI1 hK1 c1
        go_wp2_with fail
        refine (IH2.out _ HT1.out HI1.out).mono ?_
        rintro e w2 ⟨rfl, hT2, hI2, hK2⟩
        have HT2 := Lib.hid hT2; have HI2 := Lib.hid hI2; have HK2 := Lib.hid hK2; clear hT2 hI2 hK2
        go_wp2_with fail
        refine (HBB.out _ HT2.out HI2.out).mono ?_
        rintro e w3 ⟨rfl, hT3, hI3, hK3⟩
        obtain ⟨kc3, -, -, c2, -⟩ := hT3.cells (show 0 < S.leaves.length by rw [Hk.out]; omega)
        have d := hT3.loser node (show node < ql.length by rw [HL2.out, HL1.out, HT.out.len, Hk.out]; omega)
        have df := hT3.loserFree node
        rw [Hk.out] at c2
        have HT3 := Lib.hid hT3; have HI3 := Lib.hid hI3; have HK3 := Lib.hid hK3; clear hT3 hI3 hK3
        go_wp2_with fail
        go_ret
        have K2 : Keep (fun b => b ≠ t ∧ b ≠ L ∧ b ≠ M) w3 _ := (Keep.refl (fun b => b ≠ t ∧ b ≠ L ∧ b ≠ M) w3).setCell (a := ⟨M, node, none⟩) (fun _ h => h.2.2 rfl) (.int .i64 (pw : Nat))
        exact ⟨rfl, HT3.out.putLoser node pw, H'.out.keep2 _ _ _ _ HI3.out K2, HK1.out.trans (HK2.out.trans (HK3.out.trans (H'.out.own HI3.out K2)))⟩
      | false =>
        go_enter Try.func44, Try.ntmps44
        go_wp2_with fail
        refine IH1.out.mono ?_
        rintro e w1 ⟨rfl, hT1, hI1, hK1⟩
        have HT1 := Lib.hid hT1; have HI1 := Lib.hid hI1; have HK1 := Lib.hid hK1; clear hT1 hI1 hK1 c1
        go_wp2_with fail
        refine (IH2.out _ HT1.out HI1.out).mono ?_
        rintro e w2 ⟨rfl, hT2, hI2, hK2⟩
        have HT2 := Lib.hid hT2; have HI2 := Lib.hid hI2; have HK2 := Lib.hid hK2; clear hT2 hI2 hK2
        go_wp2_with fail
        refine (HBB.out _ HT2.out HI2.out).mono ?_
        rintro e w3 ⟨rfl, hT3, hI3, hK3⟩
        obtain ⟨kc3, -, -, c2, -⟩ := hT3.cells (show 0 < S.leaves.length by rw [Hk.out]; omega)
        have d := hT3.loser node (show node < ql.length by rw [HL2.out, HL1.out, HT.out.len, Hk.out]; omega)
        have df := hT3.loserFree node
        rw [Hk.out] at c2
        have HT3 := Lib.hid hT3; have HI3 := Lib.hid hI3; have HK3 := Lib.hid hK3; clear hT3 hI3 hK3
        go_wp2_with fail
        go_ret
        have K2 : Keep (fun b => b ≠ t ∧ b ≠ L ∧ b ≠ M) w3 _ := (Keep.refl (fun b => b ≠ t ∧ b ≠ L ∧ b ≠ M) w3).setCell (a := ⟨M, node, none⟩) (fun _ h => h.2.2 rfl) (.int .i64 (qw : Nat))
        exact ⟨rfl, HT3.out.putLoser node qw, H'.out.keep2 _ _ _ _ HI3.out K2, HK1.out.trans (HK2.out.trans (HK3.out.trans (H'.out.own HI3.out K2)))⟩
end Go.Proofs.Ytmhdalalicomkaa
