/- The tree's walks: ask. -/
import Derived.Test.YtmhdalalicomkaaB1b
import Derived.Test.YtmhdalalicomkaaB2
namespace Go.Proofs.Ytmhdalalicomkaa
open Go.RowKit
variable {σ : Type} {E : Sys σ} {B0 t L M k : Nat} {F : σ → World → Nat → Prop} {I : Nat → σ → World → Prop} {gs : Nat → FuncId} {lbs : Nat → Array Value} {og : FuncId} {ob : Array Value}

set_option maxRecDepth 100000 in
set_option maxHeartbeats 4000000 in
theorem ask_any (H : EnvOk E B0 t L M k F I gs lbs og ob) (n : Nat) (s : σ) (S : TS) (i : Nat) (w : World) (hT : TreeAt w t L M S) (hI : I (n + 1) s w) (hk : S.leaves.length = k) (hi : i < k)
    (hfn : (S.leaves.getD i default).fn = .func (.func (gs i)) #[] (lbs i)) :
    Calls Try.prog 36 #[.pointer (some ⟨t, 0, none⟩), .int .i64 i] w fun e w' =>
      e = .returned (.bool (askF E S s i).1) ∧ TreeAt w' t L M (askF E S s i).2.1 ∧ I n (askF E S s i).2.2 w' ∧ Fst F t L M s (askF E S s i).2.2 w w' := by
  obtain ⟨kc, -, c1, -, -, -, -, -, -, -⟩ := hT.cells (by omega)
  obtain ⟨a0, -, -, -⟩ := hT.leaf i (by omega)
  have hfew := hT.few
  rw [hk] at hfew c1
  rw [hfn] at a0
  have hoe := H.enter i hi
  have hsrc := H.src n s w i hi hI
  have nFt : ¬ F s w t := fun h => (H.apart _ _ _ hI t h).1 rfl
  have nFL : ¬ F s w L := fun h => (H.apart _ _ _ hI L h).2.1 rfl
  have nFM : ¬ F s w M := fun h => (H.apart _ _ _ hI M h).2.2.1 rfl
  have HO := Lib.hid H
  have HT := Lib.hid hT
  have Hk := Lib.hid hk
  clear H hT hI hk hfn
  generalize hr : E.src s i = r at *
  obtain ⟨⟨x, ok, er⟩, s'⟩ := r
  simp only [It.val] at hsrc
  have HR := Lib.hid hr
  clear hr
  have nt : t ≠ L := HT.out.ntL (by rw [Hk.out]; omega)
  by_cases he : er = 0
  · subst he
    have hF : askF E S s i = (true, { S with leaves := S.leaves.set i { S.leaves.getD i default with hand := if ok then x else (0, 0), has := ok } }, s') := by
      unfold askF; rw [HR.out]; simp
    rw [hF]
    have HF := Lib.hid hF
    clear hF
    cases ok with
    | true =>
      go_enter Try.func36, Try.ntmps36
      go_wp2_with fail
      refine hsrc.mono ?_
      rintro e w1 ⟨rfl, hI1, hK1, hn1⟩
      have hT1 := HT.out.keep hK1 nFt nFL nFM
      obtain ⟨-, d1, d2, d3⟩ := hT1.leaf i (by have := Hk.out; omega)
      have e1 := hT1.leafFree (by have := Hk.out; omega) (i * 4 + 1)
      have e2 := hT1.leafFree (by have := Hk.out; omega) (i * 4 + 1 + 1)
      have hL1 : L < w1.heap.size := World.block_lt_of_cell? w1 _ d1
      have d2 : w1.cell? ⟨L, i * 4 + 1 + 1, none⟩ = _ := d2
      have e3 := hT1.leafFree (by have := Hk.out; omega) (i * 4 + 3)
      have HT1 := Lib.hid hT1
      have HI1 := Lib.hid hI1
      have HK1 := Lib.hid (Fst.env (t := t) (L := L) (M := M) hK1 hn1)
      clear hT1 hI1 hK1 hn1 c1 a0
      go_wp2_with fail
      go_ret
      have K2 : Keep (fun b => b ≠ t ∧ b ≠ L ∧ b ≠ M) w1 _ := ((((((((Keep.refl (fun b => b ≠ t ∧ b ≠ L ∧ b ≠ M) w1).setCell (a := ⟨L, i * 4 + 1, none⟩) (fun _ h => h.2.1 rfl) (.int .i64 0)).setCell (a := ⟨L, i * 4 + 1 + 1, none⟩) (fun _ h => h.2.1 rfl) (.int .i64 0)).setCell (a := ⟨L, i * 4 + 3, none⟩) (fun _ h => h.2.1 rfl) (.bool true)).setCell (a := ⟨L, i * 4 + 1, none⟩) (fun _ h => h.2.1 rfl) (.int .i64 x.1)).setCell (a := ⟨L, i * 4 + 1 + 1, none⟩) (fun _ h => h.2.1 rfl) (.int .i64 x.2)).alloc (.cells #[.int .i64 x.1, .int .i64 x.2] 35)).alloc (.cells #[.int .i64 0, .int .i64 0] 35))
      exact ⟨rfl, ((HT1.out.fill2 i (by have := Hk.out; omega) x (0, 0) true).alloc _).alloc _, HO.out.keep2 _ _ _ _ HI1.out K2, HK1.out.trans (HO.out.own HI1.out K2)⟩
    | false =>
      go_enter Try.func36, Try.ntmps36
      go_wp2_with fail
      refine hsrc.mono ?_
      rintro e w1 ⟨rfl, hI1, hK1, hn1⟩
      have hT1 := HT.out.keep hK1 nFt nFL nFM
      obtain ⟨-, d1, d2, d3⟩ := hT1.leaf i (by have := Hk.out; omega)
      have e1 := hT1.leafFree (by have := Hk.out; omega) (i * 4 + 1)
      have e2 := hT1.leafFree (by have := Hk.out; omega) (i * 4 + 1 + 1)
      have hL1 : L < w1.heap.size := World.block_lt_of_cell? w1 _ d1
      have d2 : w1.cell? ⟨L, i * 4 + 1 + 1, none⟩ = _ := d2
      have e3 := hT1.leafFree (by have := Hk.out; omega) (i * 4 + 3)
      have HT1 := Lib.hid hT1
      have HI1 := Lib.hid hI1
      have HK1 := Lib.hid (Fst.env (t := t) (L := L) (M := M) hK1 hn1)
      clear hT1 hI1 hK1 hn1 c1 a0
      go_wp2_with fail
      go_ret
      have K2 : Keep (fun b => b ≠ t ∧ b ≠ L ∧ b ≠ M) w1 _ := ((((((Keep.refl (fun b => b ≠ t ∧ b ≠ L ∧ b ≠ M) w1).setCell (a := ⟨L, i * 4 + 1, none⟩) (fun _ h => h.2.1 rfl) (.int .i64 0)).setCell (a := ⟨L, i * 4 + 1 + 1, none⟩) (fun _ h => h.2.1 rfl) (.int .i64 0)).setCell (a := ⟨L, i * 4 + 3, none⟩) (fun _ h => h.2.1 rfl) (.bool false)).alloc (.cells #[.int .i64 x.1, .int .i64 x.2] 35)).alloc (.cells #[.int .i64 0, .int .i64 0] 35))
      exact ⟨rfl, ((HT1.out.fill i (by have := Hk.out; omega) (0, 0) false).alloc _).alloc _, HO.out.keep2 _ _ _ _ HI1.out K2, HK1.out.trans (HO.out.own HI1.out K2)⟩
  · have hF : askF E S s i = (false, { S with err := er, at_ := i }, s') := by
      unfold askF; rw [HR.out]; simp [he]
    rw [hF]
    have HF := Lib.hid hF
    clear hF
    go_enter Try.func36, Try.ntmps36
    go_wp2_with fail
    refine hsrc.mono ?_
    rintro e w1 ⟨rfl, hI1, hK1, hn1⟩
    have hT1 := HT.out.keep hK1 nFt nFL nFM
    obtain ⟨kc1, -, -, -, -, -, -, -, d7, d8⟩ := hT1.cells (by have := Hk.out; omega)
    have e7 := hT1.frozen 7
    have e8 := hT1.frozen 8
    have hL1 : t < w1.heap.size := World.block_lt_of_cell? w1 _ d7
    have HT1 := Lib.hid hT1
    have HI1 := Lib.hid hI1
    have HK1 := Lib.hid (Fst.env (t := t) (L := L) (M := M) hK1 hn1)
    clear hT1 hI1 hK1 hn1 c1 a0
    go_wp2_with fail
    go_ret
    have K2 : Keep (fun b => b ≠ t ∧ b ≠ L ∧ b ≠ M) w1 _ := ((((Keep.refl (fun b => b ≠ t ∧ b ≠ L ∧ b ≠ M) w1).setCell (a := ⟨t, 7, none⟩) (fun _ h => h.1 rfl) (.int .i64 er)).setCell (a := ⟨t, 8, none⟩) (fun _ h => h.1 rfl) (.int .i64 i)).alloc (.cells #[.int .i64 x.1, .int .i64 x.2] 35))
    exact ⟨rfl, (((HT1.out.put 7 (.int .i64 er) { S with err := er } rfl rfl (fun _ _ => rfl)).put 8 (.int .i64 i) { S with err := er, at_ := i } rfl rfl (fun _ _ => rfl)).alloc _), HO.out.keep2 _ _ _ _ HI1.out K2, HK1.out.trans (HO.out.own HI1.out K2)⟩
end Go.Proofs.Ytmhdalalicomkaa
