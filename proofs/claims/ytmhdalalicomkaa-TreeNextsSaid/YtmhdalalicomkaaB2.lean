/- The tree's walks: beats. -/
import Derived.Test.YtmhdalalicomkaaB1
import Derived.Test.YtmhdalalicomkaaProg
namespace Go.Proofs.Ytmhdalalicomkaa
open Go.RowKit

variable {σ : Type}

/-- What a call does to memory: it writes to the tree's blocks and to those of the sources and the order (F s), and these grow by new ones alone. -/
structure Fst (F : σ → World → Nat → Prop) (t L M : Nat) (s s' : σ) (w w' : World) : Prop where
  keep : Keep (fun b => ¬ F s w b ∧ b ≠ t ∧ b ≠ L ∧ b ≠ M) w w'
  new : ∀ b, F s' w' b → F s w b ∨ w.heap.size ≤ b
namespace Fst
variable {F : σ → World → Nat → Prop} {t L M : Nat} {s s1 s2 : σ} {w w1 w2 : World}
theorem refl (s : σ) (w : World) : Fst F t L M s s w w := ⟨Keep.refl _ _, fun _ h => .inl h⟩
theorem trans (h : Fst F t L M s s1 w w1) (k : Fst F t L M s1 s2 w1 w2) : Fst F t L M s s2 w w2 := by
  refine ⟨⟨k.keep.os.trans h.keep.os, k.keep.tape.trans h.keep.tape, k.keep.output.trans h.keep.output, Nat.le_trans h.keep.size k.keep.size, fun b hb hs => ?_⟩, fun b hb => ?_⟩
  · refine (k.keep.block b (Nat.lt_of_lt_of_le hb h.keep.size) ⟨fun hf => ?_, hs.2⟩).trans (h.keep.block b hb hs)
    rcases h.new b hf with h1 | h1
    · exact hs.1 h1
    · omega
  · rcases k.new b hb with h1 | h1
    · exact h.new b h1
    · exact .inr (Nat.le_trans h.keep.size h1)
theorem env (h : Keep (fun b => ¬ F s w b) w w1) (hn : ∀ b, F s1 w1 b → F s w b ∨ w.heap.size ≤ b) : Fst F t L M s s1 w w1 := ⟨h.mono (fun _ _ hb => hb.1), hn⟩
end Fst

/-- What the sources and the order must be good for. n in 'I n': so many calls of theirs may still come. F: the blocks that they write to. -/
structure EnvOk (E : Sys σ) (B0 t L M k : Nat) (F : σ → World → Nat → Prop) (I : Nat → σ → World → Prop) (gs : Nat → FuncId) (lbs : Nat → Array Value) (og : FuncId) (ob : Array Value) : Prop where
  mono : ∀ n s w, I (n + 1) s w → I n s w
  apart : ∀ n s w, I n s w → ∀ b, F s w b → b ≠ t ∧ b ≠ L ∧ b ≠ M ∧ b < w.heap.size
  lo : B0 ≤ t ∧ B0 ≤ L ∧ B0 ≤ M
  big : ∀ n s w, I n s w → B0 ≤ w.heap.size
  keep : ∀ n s w w', I n s w → Keep (fun b => F s w b ∨ b < B0) w w' → I n s w'
  same : ∀ n s w w', I n s w → Keep (fun b => F s w b ∨ b < B0) w w' → ∀ b, F s w' b → F s w b
  enter : ∀ i, i < k → ∀ args w, (callFunc (gs i) args).run Try.prog w = .ok (.enter (gs i) args) w
  src : ∀ n s w i, i < k → I (n + 1) s w → Calls Try.prog (gs i) (lbs i) w fun e w' =>
    e = .returned (.tuple #[It.val (E.src s i).1.1, .bool (E.src s i).1.2.1, .int .i64 (E.src s i).1.2.2]) ∧ I n (E.src s i).2 w' ∧ Keep (fun b => ¬ F s w b) w w' ∧ ∀ b, F (E.src s i).2 w' b → F s w b ∨ w.heap.size ≤ b
  oenter : ∀ args w, (callFunc og args).run Try.prog w = .ok (.enter og args) w
  ord : ∀ n s w x y, I (n + 1) s w → Calls Try.prog og (#[It.val x, It.val y] ++ ob) w fun e w' =>
    e = .returned (.int .i64 (E.ord s x y).1) ∧ I n (E.ord s x y).2 w' ∧ Keep (fun b => ¬ F s w b) w w' ∧ ∀ b, F (E.ord s x y).2 w' b → F s w b ∨ w.heap.size ≤ b

theorem EnvOk.keep2 {E : Sys σ} {B0 t L M k : Nat} {F : σ → World → Nat → Prop} {I : Nat → σ → World → Prop} {gs : Nat → FuncId} {lbs : Nat → Array Value} {og : FuncId} {ob : Array Value} (H : EnvOk E B0 t L M k F I gs lbs og ob) (n : Nat) (s : σ) (w w' : World)
    (hI : I n s w) (K : Keep (fun b => b ≠ t ∧ b ≠ L ∧ b ≠ M) w w') : I n s w' := H.keep _ _ _ _ hI (K.mono (fun b _ hb => hb.elim (fun hb => let h := H.apart _ _ _ hI b hb; ⟨h.1, h.2.1, h.2.2.1⟩) (fun hb => by have := H.lo; exact ⟨by omega, by omega, by omega⟩)))
theorem EnvOk.keepT {E : Sys σ} {B0 t L M k : Nat} {F : σ → World → Nat → Prop} {I : Nat → σ → World → Prop} {gs : Nat → FuncId} {lbs : Nat → Array Value} {og : FuncId} {ob : Array Value} (H : EnvOk E B0 t L M k F I gs lbs og ob) (n : Nat) (s : σ) (w w' : World)
    (hI : I n s w) (K : Keep (fun _ => True) w w') : I n s w' := H.keep _ _ _ _ hI (K.mono (fun _ _ _ => trivial))
theorem EnvOk.own {E : Sys σ} {B0 t L M k : Nat} {F : σ → World → Nat → Prop} {I : Nat → σ → World → Prop} {gs : Nat → FuncId} {lbs : Nat → Array Value} {og : FuncId} {ob : Array Value} (H : EnvOk E B0 t L M k F I gs lbs og ob) {n : Nat} {s : σ} {w w' : World}
    (hI : I n s w) (K : Keep (fun b => b ≠ t ∧ b ≠ L ∧ b ≠ M) w w') : Fst F t L M s s w w' := ⟨K.mono (fun _ _ hb => hb.2), fun b hb => .inl (H.same _ _ _ _ hI (K.mono (fun b _ hb => hb.elim (fun hb => let h := H.apart _ _ _ hI b hb; ⟨h.1, h.2.1, h.2.2.1⟩) (fun hb => by have := H.lo; exact ⟨by omega, by omega, by omega⟩))) b hb)⟩
theorem EnvOk.same2 {E : Sys σ} {B0 t L M k : Nat} {F : σ → World → Nat → Prop} {I : Nat → σ → World → Prop} {gs : Nat → FuncId} {lbs : Nat → Array Value} {og : FuncId} {ob : Array Value} (H : EnvOk E B0 t L M k F I gs lbs og ob) {n : Nat} {s : σ} {w w' : World}
    (hI : I n s w) (K : Keep (fun b => b ≠ t ∧ b ≠ L ∧ b ≠ M) w w') : ∀ b, F s w' b → F s w b := fun b hb => H.same _ _ _ _ hI (K.mono (fun b _ hb => hb.elim (fun hb => let h := H.apart _ _ _ hI b hb; ⟨h.1, h.2.1, h.2.2.1⟩) (fun hb => by have := H.lo; exact ⟨by omega, by omega, by omega⟩))) b hb
theorem EnvOk.all {E : Sys σ} {B0 t L M k : Nat} {F : σ → World → Nat → Prop} {I : Nat → σ → World → Prop} {gs : Nat → FuncId} {lbs : Nat → Array Value} {og : FuncId} {ob : Array Value} (H : EnvOk E B0 t L M k F I gs lbs og ob) {n : Nat} {s : σ} {w w' : World}
    (hI : I n s w) (K : Keep (fun _ => True) w w') : Fst F t L M s s w w' := H.own hI (K.mono (fun _ _ _ => trivial))

section
variable {E : Sys σ} {B0 t L M k : Nat} {F : σ → World → Nat → Prop} {I : Nat → σ → World → Prop} {gs : Nat → FuncId} {lbs : Nat → Array Value} {og : FuncId} {ob : Array Value}

set_option maxRecDepth 100000 in
set_option maxHeartbeats 1000000 in
theorem beats_no (a b k kc : Nat) (ha hb : Bool) (w : World)
    (ht1 : w.cell? ⟨t, 1, none⟩ = some (.slice (some ⟨L, 0, none⟩) k kc))
    (hla : w.cell? ⟨L, a * 4 + 3, none⟩ = some (.bool ha))
    (hlb : w.cell? ⟨L, b * 4 + 3, none⟩ = some (.bool hb))
    (h1 : a < k) (h2 : b < k) (h3 : k ≤ 64) (hx : (ha && hb) = false) :
    Calls Try.prog 45 #[.pointer (some ⟨t, 0, none⟩), .int .i64 a, .int .i64 b] w fun e w' => e = .returned (.bool (ha || (!hb && decide (a < b)))) ∧ ∃ n, w' = w.drewN n := by
  by_cases hab : a < b
  all_goals
    cases ha <;> cases hb
    all_goals try (simp at hx; done)
    all_goals
      go_enter Try.func45, Try.ntmps45
      go_wp2
      go_quiet (fail)
      go_wp2
      go_ret
      exact ⟨by simp [hab], _, rfl⟩

set_option maxRecDepth 100000 in
set_option maxHeartbeats 4000000 in
theorem beats_yes (H : EnvOk E B0 t L M k F I gs lbs og ob) (n : Nat) (s : σ) (S : TS) (a b : Nat) (w : World) (hT : TreeAt w t L M S) (hI : I (n + 1) s w) (hk : S.leaves.length = k) (hord : S.ord = .func (.func og) #[] ob)
    (h1 : a < k) (h2 : b < k) (ha : (S.leaves.getD a default).has = true) (hb : (S.leaves.getD b default).has = true) :
    Calls Try.prog 45 #[.pointer (some ⟨t, 0, none⟩), .int .i64 a, .int .i64 b] w fun e w' =>
      e = .returned (.bool (decide ((E.ord s (S.leaves.getD a default).hand (S.leaves.getD b default).hand).1 < 0) || ((E.ord s (S.leaves.getD a default).hand (S.leaves.getD b default).hand).1 == 0 && decide (a < b)))) ∧
      TreeAt w' t L M { S with cmp := wrap64 (S.cmp + 1) } ∧ I n (E.ord s (S.leaves.getD a default).hand (S.leaves.getD b default).hand).2 w' ∧ Fst F t L M s (E.ord s (S.leaves.getD a default).hand (S.leaves.getD b default).hand).2 w w' := by
  obtain ⟨kc, c0, c1, -, -, -, -, c6, -, -⟩ := hT.cells (by omega)
  obtain ⟨-, a1, a2, a3⟩ := hT.leaf a (by omega)
  obtain ⟨-, b1, b2, b3⟩ := hT.leaf b (by omega)
  have f6 := hT.frozen 6
  have hfew := hT.few
  rw [hk] at hfew c1
  rw [hord] at c0
  rw [ha] at a3
  rw [hb] at b3
  have htL := hT.ntL (by omega)
  have hoe := H.oenter
  have HO := Lib.hid H
  have HT := Lib.hid hT
  have HI := Lib.hid hI
  have Hk := Lib.hid hk
  clear H hT hI hk hord ha hb
  have ho := HO.out.ord n s
  generalize (S.leaves.getD a default).hand = x at *
  generalize (S.leaves.getD b default).hand = y at *
  generalize hc : E.ord s x y = r at *
  obtain ⟨c, s'⟩ := r
  have hcc : (E.ord s x y).1 = c := by rw [hc]
  have hss : (E.ord s x y).2 = s' := by rw [hc]
  have ho' : ∀ w, I (n + 1) s w → Calls Try.prog og (#[It.val x, It.val y] ++ ob) w fun e w' => e = .returned (.int .i64 c) ∧ I n s' w' ∧ Keep (fun b => ¬ F s w b) w w' ∧ ∀ b, F s' w' b → F s w b ∨ w.heap.size ≤ b := by
    intro w hw
    have := ho w x y hw
    rwa [hcc, hss] at this
  clear ho hc hcc hss
  by_cases hc0 : c < 0
  all_goals by_cases hc1 : c = 0
  all_goals by_cases hab : a < b
  all_goals first | (exfalso; omega) | skip
  all_goals
    go_enter Try.func45, Try.ntmps45
    go_wp2
    go_quiet (fail)
    go_wp2
    have g0 := cell_set_ne (p := ⟨t, 6, none⟩) (u := .int .i64 (wrap64 (S.cmp + 1))) (show (w.drewN nq).cell? ⟨t, 0, none⟩ = _ from c0) (.inr (by simp))
    have g1 := cell_set_ne (p := ⟨t, 6, none⟩) (u := .int .i64 (wrap64 (S.cmp + 1))) (show (w.drewN nq).cell? ⟨L, a * 4 + 1, none⟩ = _ from a1) (.inl (Ne.symm htL))
    have g2 := cell_set_ne (p := ⟨t, 6, none⟩) (u := .int .i64 (wrap64 (S.cmp + 1))) (show (w.drewN nq).cell? ⟨L, a * 4 + 2, none⟩ = _ from a2) (.inl (Ne.symm htL))
    have g3 := cell_set_ne (p := ⟨t, 6, none⟩) (u := .int .i64 (wrap64 (S.cmp + 1))) (show (w.drewN nq).cell? ⟨L, b * 4 + 1, none⟩ = _ from b1) (.inl (Ne.symm htL))
    have g4 := cell_set_ne (p := ⟨t, 6, none⟩) (u := .int .i64 (wrap64 (S.cmp + 1))) (show (w.drewN nq).cell? ⟨L, b * 4 + 2, none⟩ = _ from b2) (.inl (Ne.symm htL))
    have HT2 := Lib.hid ((HT.out.drewN nq).put 6 (.int .i64 (wrap64 (S.cmp + 1))) { S with cmp := wrap64 (S.cmp + 1) } rfl rfl (fun _ _ => rfl))
    have HK2 := Lib.hid (((((Keep.refl (fun b => b ≠ t ∧ b ≠ L ∧ b ≠ M) w).drewN nq).setCell (a := ⟨t, 6, none⟩) (fun _ h => h.1 rfl) (.int .i64 (wrap64 (S.cmp + 1)))).drew))
    have hI2 := HO.out.keep2 _ _ _ _ HI.out ((((Keep.refl (fun b => b ≠ t ∧ b ≠ L ∧ b ≠ M) w).drewN nq).setCell (a := ⟨t, 6, none⟩) (fun _ h => h.1 rfl) (.int .i64 (wrap64 (S.cmp + 1)))).drew)
    generalize (w.drewN nq).setCell ⟨t, 6, none⟩ (.int .i64 (wrap64 (S.cmp + 1))) = W at *
    clear c0 c1 c6 f6 a1 a2 a3 b1 b2 b3
    have nFt : ¬ F s W.drew t := fun h => (HO.out.apart _ _ _ hI2 t h).1 rfl
    have nFL : ¬ F s W.drew L := fun h => (HO.out.apart _ _ _ hI2 L h).2.1 rfl
    have nFM : ¬ F s W.drew M := fun h => (HO.out.apart _ _ _ hI2 M h).2.2.1 rfl
    go_region_held3 (fun w' => w'.cell? ⟨t, 0, none⟩ = some (.func (.func og) #[] ob) ∧ w'.cell? ⟨L, a * 4 + 1, none⟩ = some (.int .i64 x.1) ∧ w'.cell? ⟨L, a * 4 + 2, none⟩ = some (.int .i64 x.2) ∧ w'.cell? ⟨L, b * 4 + 1, none⟩ = some (.int .i64 y.1) ∧ w'.cell? ⟨L, b * 4 + 2, none⟩ = some (.int .i64 y.2))
      (first | go_keep | (exact ⟨hK.cell nFt (by assumption), hK.cell nFL (by assumption), hK.cell nFL (by assumption), hK.cell nFL (by assumption), hK.cell nFL (by assumption)⟩))
      ((go_at_fn og; refine (ho' _ hI2).mono ?_; rintro e w' ⟨rfl, hR, hK, hn⟩))
    go_wp2
    go_ret
    have HN := HT2.out.drew.keep hK nFt nFL nFM
    exact ⟨by simp [hc0, hc1, hab], HN, hR, (HO.out.own HI.out HK2.out).trans (Fst.env hK hn)⟩

theorem beats_any (H : EnvOk E B0 t L M k F I gs lbs og ob) (n : Nat) (s : σ) (S : TS) (a b : Nat) (w : World) (hT : TreeAt w t L M S) (hI : I (n + 1) s w) (hk : S.leaves.length = k) (hord : S.ord = .func (.func og) #[] ob)
    (h1 : a < k) (h2 : b < k) :
    Calls Try.prog 45 #[.pointer (some ⟨t, 0, none⟩), .int .i64 a, .int .i64 b] w fun e w' =>
      e = .returned (.bool (beatsF E S.leaves S.cmp s a b).1) ∧
      TreeAt w' t L M { S with cmp := (beatsF E S.leaves S.cmp s a b).2.1 } ∧ I n (beatsF E S.leaves S.cmp s a b).2.2 w' ∧ Fst F t L M s (beatsF E S.leaves S.cmp s a b).2.2 w w' := by
  cases hx : (S.leaves.getD a default).has && (S.leaves.getD b default).has with
  | false =>
    obtain ⟨kc, c0, c1, -, -, -, -, c6, -, -⟩ := hT.cells (by omega)
    have a3 := (hT.leaf a (by omega)).2.2.2
    have b3 := (hT.leaf b (by omega)).2.2.2
    have hfew := hT.few
    refine (beats_no a b S.leaves.length kc _ _ w c1 a3 b3 (by omega) (by omega) (by omega) hx).mono ?_
    rintro e w' ⟨rfl, m, rfl⟩
    have e : beatsF E S.leaves S.cmp s a b = ((S.leaves.getD a default).has || (!(S.leaves.getD b default).has && decide (a < b)), S.cmp, s) := by unfold beatsF; rw [if_neg (by simp only [hx]; simp)]
    rw [e]
    exact ⟨rfl, hT.drewN m, H.keepT _ _ _ _ (H.mono _ _ _ hI) ((Keep.refl _ _).drewN m), H.all (H.mono _ _ _ hI) ((Keep.refl _ _).drewN m)⟩
  | true =>
    simp only [Bool.and_eq_true] at hx
    refine (beats_yes H n s S a b w hT hI hk hord h1 h2 hx.1 hx.2).mono ?_
    rintro e w' ⟨rfl, h1, h2, h3⟩
    have e : beatsF E S.leaves S.cmp s a b = (decide ((E.ord s (S.leaves.getD a default).hand (S.leaves.getD b default).hand).1 < 0) || ((E.ord s (S.leaves.getD a default).hand (S.leaves.getD b default).hand).1 == 0 && decide (a < b)), wrap64 (S.cmp + 1), (E.ord s (S.leaves.getD a default).hand (S.leaves.getD b default).hand).2) := by unfold beatsF; rw [if_pos (by rw [hx.1, hx.2]; rfl)]
    rw [e]
    exact ⟨rfl, h1, h2, h3⟩
end
end Go.Proofs.Ytmhdalalicomkaa
