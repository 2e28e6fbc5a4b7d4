/- The tree's walks: Next. -/
import Derived.Test.YtmhdalalicomkaaB7
namespace Go.Proofs.Ytmhdalalicomkaa
open Go.RowKit
variable {σ : Type} {E : Sys σ} {B0 t L M k : Nat} {F : σ → World → Nat → Prop} {I : Nat → σ → World → Prop} {gs : Nat → FuncId} {lbs : Nat → Array Value} {og : FuncId} {ob : Array Value}

def ansVal (a : Ans) : Value := .tuple #[.agg #[.int .i64 a.1.1, .int .i64 a.1.2], .int .i64 (a.2.1 : Nat), .bool a.2.2.1, .int .i64 a.2.2.2]

theorem closeT (H : EnvOk E B0 t L M k F I gs lbs og ob) {n : Nat} {s s1 : σ} {S : TS} {w w1 W : World} (hT : TreeAt w1 t L M S) (hI : I n s1 w1) (K0 : Fst F t L M s s1 w w1) (K : Keep (fun _ => True) w1 W) :
    TreeAt W t L M S ∧ I n s1 W ∧ Fst F t L M s s1 w W := ⟨hT.keep K trivial trivial trivial, H.keepT _ _ _ _ hI K, K0.trans (H.all hI K)⟩
/-- The box of a variable of the call's own, laid when the tree lay already, is none of the tree's blocks nor the environment's. -/
structure NoBox (B0 t L M : Nat) (F : σ → World → Nat → Prop) (s : σ) (w : World) (bx : Nat) : Prop where
  lo : B0 ≤ bx
  t : bx ≠ t
  L : bx ≠ L
  M : bx ≠ M
  F : ¬ F s w bx
theorem NoBox.still (H : EnvOk E B0 t L M k F I gs lbs og ob) {n : Nat} {s : σ} {w w1 : World} {bx : Nat} (nb : NoBox B0 t L M F s w bx) (hI : I n s w) (K : Keep (fun _ => True) w w1) : NoBox B0 t L M F s w1 bx :=
  ⟨nb.lo, nb.t, nb.L, nb.M, fun h => nb.F (H.same2 hI (K.mono (fun _ _ _ => trivial)) _ h)⟩
theorem closeB (H : EnvOk E B0 t L M k F I gs lbs og ob) {n : Nat} {s s1 : σ} {S S' : TS} {w w0 w1 W : World} {bx : Nat} (hI : I n s1 w1) (nb : NoBox B0 t L M F s1 w1 bx) (hw : w.heap.size ≤ bx) (hT : TreeAt w1 t L M S)
    (K0 : Fst F t L M s s1 w0 w1) (K00 : Fst F t L M s s w w0) (v0 : w0.heap.size ≤ bx + 1)
    (hT2 : TreeAt (w1.setCell ⟨t, 5, none⟩ (.bool true)) t L M S') (K : Keep (fun b => b ≠ bx) (w1.setCell ⟨t, 5, none⟩ (.bool true)) W) :
    TreeAt W t L M S' ∧ I n s1 W ∧ Fst F t L M s s1 w W := by
  have K1 : Keep (fun b => b ≠ t ∧ b ≠ bx) w1 W := ((Keep.refl (fun b => b ≠ t ∧ b ≠ bx) w1).setCell (a := ⟨t, 5, none⟩) (fun _ h => h.1 rfl) (.bool true)).trans (K.mono (fun _ _ h => h.2))
  have f0 : Fst F t L M s s1 w w1 := K00.trans K0
  have K2 : Keep (fun b => F s1 w1 b ∨ b < B0) w1 W := K1.mono (fun b _ hb => hb.elim (fun hb => ⟨(H.apart _ _ _ hI b hb).1, fun e => nb.F (e ▸ hb)⟩) (fun hb => by have := H.lo; have := nb.lo; exact ⟨by omega, by omega⟩))
  refine ⟨hT2.keep K (Ne.symm nb.t) (Ne.symm nb.L) (Ne.symm nb.M), H.keep _ _ _ _ hI K2, ?_, fun b hb => f0.new b (H.same _ _ _ _ hI K2 b hb)⟩
  refine ⟨K1.os.trans f0.keep.os, K1.tape.trans f0.keep.tape, K1.output.trans f0.keep.output, Nat.le_trans f0.keep.size K1.size, fun b hb hs => ?_⟩
  exact (K1.block b (Nat.lt_of_lt_of_le hb f0.keep.size) ⟨hs.2.1, by omega⟩).trans (f0.keep.block b hb hs)

theorem closeX (H : EnvOk E B0 t L M k F I gs lbs og ob) {n : Nat} {s s1 : σ} {S : TS} {w w1 W : World} {bx : Nat} (hT : TreeAt w1 t L M S) (hI : I n s1 w1) (nb : NoBox B0 t L M F s1 w1 bx) (hw : w.heap.size ≤ bx) (K0 : Fst F t L M s s1 w w1) (K : Keep (fun b => b ≠ bx) w1 W) :
    TreeAt W t L M S ∧ I n s1 W ∧ Fst F t L M s s1 w W := by
  have K2 : Keep (fun b => F s1 w1 b ∨ b < B0) w1 W := K.mono (fun b _ hb => hb.elim (fun hb => fun e => nb.F (e ▸ hb)) (fun hb => by have := nb.lo; omega))
  refine ⟨hT.keep K (Ne.symm nb.t) (Ne.symm nb.L) (Ne.symm nb.M), H.keep _ _ _ _ hI K2, ?_, fun b hb => K0.new b (H.same _ _ _ _ hI K2 b hb)⟩
  refine ⟨K.os.trans K0.keep.os, K.tape.trans K0.keep.tape, K.output.trans K0.keep.output, Nat.le_trans K0.keep.size K.size, fun b hb hs => ?_⟩
  exact (K.block b (Nat.lt_of_lt_of_le hb K0.keep.size) (by omega)).trans (K0.keep.block b hb hs)

set_option maxRecDepth 100000 in
set_option maxHeartbeats 4000000 in
theorem next_err (H : EnvOk E B0 t L M k F I gs lbs og ob) (n : Nat) (s : σ) (S : TS) (w : World) (hT : TreeAt w t L M S) (hI : I n s w) (he : S.err ≠ 0) :
    Calls Try.prog 14 #[.pointer (some ⟨t, 0, none⟩)] w fun e w' =>
      e = .returned (ansVal (nextF E S s).1) ∧ TreeAt w' t L M (nextF E S s).2.1 ∧ I n (nextF E S s).2.2 w' ∧ Fst F t L M s (nextF E S s).2.2 w w' := by
  obtain ⟨la, kc, hla, c1, c3, c4, c5, c6, c7, c8⟩ := hT.cells0
  have ht : t < w.heap.size := World.block_lt_of_cell? w _ c7
  have hF : nextF E S s = (((0, 0), S.at_, false, S.err), S, s) := by unfold nextF; rw [if_pos he]
  rw [hF]
  have he' : (S.err != 0) = true := by simpa using he
  have HT := Lib.hid hT
  have HI := Lib.hid hI
  have H' := Lib.hid H
  clear hT hI H hla hF he c1 c3 c4 c5 c6
  go_enter Try.func14, Try.ntmps14
  go_wp2_with fail
  go_region
  go_wp2_with fail
  refine bodyPost_ret (v := ansVal ((0, 0), S.at_, false, S.err)) (by simp [results, Try.results14, go_sem, ansVal]) rfl ?_
  refine ⟨rfl, closeT H'.out HT.out HI.out (Fst.refl _ _) ?_⟩
  repeat (first | exact Keep.refl _ _ | refine Keep.drew ?_ | refine Keep.drewN ?_ _ | refine Keep.alloc ?_ _ | refine Keep.setCell ?_ (fun h => absurd h (by simp)) _)

set_option maxRecDepth 100000 in
set_option maxHeartbeats 4000000 in
/-- The tree stands: it has begun, nothing is owed. -/
theorem next_front (H : EnvOk E B0 t L M k F I gs lbs og ob) (n : Nat) (s1 : σ) (S1 : TS) (W1 : World) (hT : TreeAt W1 t L M S1) (hI : I n s1 W1) (hG : Good S1 k gs lbs og ob) (he : S1.err = 0) (hb : S1.begun = true) (ho : S1.owed = false) :
    Calls Try.prog 14 #[.pointer (some ⟨t, 0, none⟩)] W1 fun e w' =>
      e = .returned (ansVal (nextF E S1 s1).1) ∧ TreeAt w' t L M (nextF E S1 s1).2.1 ∧ I n (nextF E S1 s1).2.2 w' ∧ Fst F t L M s1 (nextF E S1 s1).2.2 W1 w' := by
  obtain ⟨la, kc, -, c1, c3, c4, c5, c6, c7, c8⟩ := hT.cells0
  have ht : t < W1.heap.size := World.block_lt_of_cell? W1 _ c7
  have hfew := hT.few
  have hF : nextF E S1 s1 = frontF S1 s1 := by unfold nextF; rw [if_neg (by simp [he]), if_neg (by simp [hb]), if_neg (by simp [ho])]
  rw [he] at c7
  rw [hb] at c4
  rw [ho] at c5
  rw [hG.len] at hfew
  have HT1 := Lib.hid hT
  have HI1 := Lib.hid hI
  have HK1 := Lib.hid (Fst.refl (F := F) (t := t) (L := L) (M := M) s1 W1)
  have H' := Lib.hid H
  have HG1 := Lib.hid hG
  have HF := Lib.hid hF
  clear hT hI H hG hF he hb ho c6 c8 c1 c3

  by_cases h0 : k = 0
  · subst h0
    have hR : frontF S1 s1 = (((0, 0), 0, false, 0), S1, s1) := by unfold frontF; rw [if_pos (.inl HG1.out.len)]
    have HR := Lib.hid hR
    clear hR
    obtain ⟨la1, kc1, -, c1, -⟩ := HT1.out.cells0
    rw [HG1.out.len] at c1
    go_enter Try.func14, Try.ntmps14
    go_wp2_with fail
    go_quiet (fail)
    go_wp2_with fail
    refine bodyPost_ret (v := ansVal ((0, 0), 0, false, 0)) (by simp [results, Try.results14, go_sem, ansVal, World.cell?_alloc_new]) rfl ?_
    rw [HF.out, HR.out]
    refine ⟨rfl, closeT H'.out HT1.out HI1.out HK1.out ?_⟩
    repeat (first | exact Keep.refl _ _ | refine Keep.drew ?_ | refine Keep.drewN ?_ _ | refine Keep.alloc ?_ _ | refine Keep.setCell ?_ (fun h => absurd h (by simp)) _)
  · have hwin := HG1.out.win (by omega)
    obtain ⟨kc1, -, c1, -, c3, -, c5, -⟩ := HT1.out.cells (by rw [HG1.out.len]; omega)
    have f5 := HT1.out.frozen 5
    have ht1 := World.block_lt_of_cell? W1 _ c1
    obtain ⟨-, l1, l2, l3⟩ := HT1.out.leaf S1.win (by rw [HG1.out.len]; exact hwin)
    have hL1 := World.block_lt_of_cell? W1 _ l3
    have htL := HT1.out.ntL (by rw [HG1.out.len]; omega)
    have hLt := Ne.symm htL
    rw [HG1.out.len] at c1
    have hk0 : (k == 0) = false := by simpa using h0
    have hk1 : ((k : Int) == 0) = false := by simp; omega
    generalize hwv : S1.win = wv at *
    have HWV := Lib.hid hwv
    clear hwv
    cases hh : (S1.leaves.getD wv default).has with
    | false =>
      have hR : frontF S1 s1 = (((0, 0), 0, false, 0), S1, s1) := by unfold frontF; rw [HWV.out, if_pos (.inr hh)]
      have HR := Lib.hid hR
      rw [hh] at l3
      clear hR hh
      go_enter Try.func14, Try.ntmps14
      go_wp2_with fail
      go_quiet (fail)
      go_wp2_with fail
      refine bodyPost_ret (v := ansVal ((0, 0), 0, false, 0)) (by simp [results, Try.results14, go_sem, ansVal, World.cell?_alloc_new]) rfl ?_
      rw [HF.out, HR.out]
      refine ⟨rfl, closeT H'.out HT1.out HI1.out HK1.out ?_⟩
      repeat (first | exact Keep.refl _ _ | refine Keep.drew ?_ | refine Keep.drewN ?_ _ | refine Keep.alloc ?_ _ | refine Keep.setCell ?_ (fun h => absurd h (by simp)) _)
    | true =>
      have hR : frontF S1 s1 = (((S1.leaves.getD wv default).hand, wv, true, 0), { S1 with owed := true }, s1) := by unfold frontF; rw [HWV.out, if_neg (by rw [HG1.out.len, hh]; simp [h0])]
      have HR := Lib.hid hR
      rw [hh] at l3
      clear hR hh
      generalize (S1.leaves.getD wv default).hand = hd at *
      go_enter Try.func14, Try.ntmps14
      go_wp2_with fail
      go_quiet (fail)
      go_wp2_with fail
      go_region
      go_wp2_with fail
      skip
      refine bodyPost_ret (v := ansVal (hd, wv, true, 0)) (by simp [results, Try.results14, go_sem, ansVal]) rfl ?_
      rw [HF.out, HR.out]
      refine ⟨rfl, ?_⟩
      have nb : NoBox B0 t L M F s1 ((W1.alloc (.cells #[.int .i64 0, .int .i64 0] 35)).drewN nq) W1.heap.size := ⟨H'.out.big _ _ _ HI1.out, by omega, by omega, by have := HT1.out.ltM; omega, fun h => by have := (H'.out.apart _ _ _ HI1.out _ (H'.out.same2 HI1.out (((Keep.refl _ _).alloc _).drewN nq) _ h)).2.2.2; omega⟩
      exact closeB (w1 := (W1.alloc (.cells #[.int .i64 0, .int .i64 0] 35)).drewN nq) H'.out (H'.out.keepT _ _ _ _ HI1.out (((Keep.refl _ _).alloc _).drewN nq)) nb (Nat.le_refl _) ((HT1.out.alloc _).drewN nq) (H'.out.all (H'.out.keepT _ _ _ _ HI1.out ((Keep.refl _ _).alloc _)) ((Keep.refl _ _).drewN nq)) (H'.out.all HI1.out ((Keep.refl _ _).alloc _)) (by simp) (((HT1.out.alloc _).drewN nq).put 5 (.bool true) { S1 with owed := true } rfl rfl (fun _ _ => rfl)) ((((Keep.refl _ _).setCell (a := ⟨W1.heap.size, 0, none⟩) (fun _ h => h rfl) _).setCell (a := ⟨W1.heap.size, 1, none⟩) (fun _ h => h rfl) _).drew)

set_option maxRecDepth 100000 in
set_option maxHeartbeats 16000000 in
/-- The first Next. -/
theorem next_begin (H : EnvOk E B0 t L M k F I gs lbs og ob) (n : Nat) (s : σ) (S : TS) (w : World) (hT : TreeAt w t L M S) (hI : I (n + bud 6 + k) s w) (hG : Good S k gs lbs og ob) (he : S.err = 0) (hb : S.begun = false) :
    Calls Try.prog 14 #[.pointer (some ⟨t, 0, none⟩)] w fun e w' =>
      e = .returned (ansVal (nextF E S s).1) ∧ TreeAt w' t L M (nextF E S s).2.1 ∧ I n (nextF E S s).2.2 w' ∧ Fst F t L M s (nextF E S s).2.2 w w' := by
  obtain ⟨la, kc, -, c1, c3, c4, c5, c6, c7, c8⟩ := hT.cells0
  have ht : t < w.heap.size := World.block_lt_of_cell? w _ c7
  have hfew := hT.few
  have hF : nextF E S s = (let r := beginF E S s; if r.1 then frontF r.2.1 r.2.2 else (((0, 0), r.2.1.at_, false, r.2.1.err), r.2.1, r.2.2)) := by unfold nextF; rw [if_neg (by simp [he]), if_pos hb]
  rw [he] at c7
  rw [hb] at c4
  rw [hG.len] at hfew
  have hK00 : Fst F t L M s s w (w.alloc (.cells #[.int .i64 0, .int .i64 0] 35)) := H.all hI ((Keep.refl _ _).alloc _)
  have hbeg := begin_any H n s S (w.alloc (.cells #[.int .i64 0, .int .i64 0] 35)) (hT.alloc _) (H.keepT _ _ _ _ hI ((Keep.refl _ _).alloc _)) hG
  have hG1 := beginF_good E hG hfew s
  have hbig : B0 ≤ w.heap.size := H.big _ _ _ hI
  have nbF : ¬ F s (w.alloc (.cells #[.int .i64 0, .int .i64 0] 35)) w.heap.size := fun h => by have := (H.apart _ _ _ hI _ (H.same2 hI ((Keep.refl _ _).alloc _) _ h)).2.2.2; omega
  have hM := hT.ltM
  have hL := hT.ltL
  have NB : ∀ {s1 : σ} {W1 : World}, Fst F t L M s s1 (w.alloc (.cells #[.int .i64 0, .int .i64 0] 35)) W1 → NoBox B0 t L M F s1 W1 w.heap.size := fun h => ⟨hbig, by omega, by omega, by omega, fun hf => by
    rcases h.new _ hf with h1 | h1
    · exact nbF h1
    · simp at h1; omega⟩
  have HB0 := Lib.hid (alloc_new w (.cells #[.int .i64 0, .int .i64 0] 35))
  have hbeg' := hbeg
  clear hbeg
  generalize hr : beginF E S s = r at *
  obtain ⟨rb, S1, s1⟩ := r
  try simp only at hF hbeg' hG1
  have HBE := Lib.hid hbeg'
  have HG1 := Lib.hid hG1
  have H' := Lib.hid H
  have HK00 := Lib.hid hK00
  have Hr := Lib.hid hr
  clear hT hI H hG he hb c1 c3 c5 c6 c8 hK00 hr hbeg' hG1
  cases rb with
  | false =>
    have hF2 : nextF E S s = (((0, 0), S1.at_, false, S1.err), S1, s1) := hF
    have HF := Lib.hid hF2
    clear hF hF2
    go_enter Try.func14, Try.ntmps14
    go_wp2_with fail
    refine HBE.out.mono ?_
    rintro e W1 ⟨rfl, hT1, hI1, hK1⟩
    obtain ⟨la1, kc1, -, -, -, -, -, -, d7, d8⟩ := hT1.cells0
    have ht1 : t < W1.heap.size := World.block_lt_of_cell? W1 _ d7
    have hbx := hK1.keep.heap (b := w.heap.size) ⟨nbF, by omega, by omega, by omega⟩ HB0.out
    have b0 : W1.cell? ⟨w.heap.size, 0, none⟩ = some (.int .i64 0) := by rw [cell_blk hbx]; rfl
    have b1 : W1.cell? ⟨w.heap.size, 1, none⟩ = some (.int .i64 0) := by rw [cell_blk hbx]; rfl
    have bf0 := frozen_blk hbx 0
    have bf1 := frozen_blk hbx 1
    have HT1 := Lib.hid hT1; have HI1 := Lib.hid hI1; have HK1 := Lib.hid (HK00.out.trans hK1); have HNB := Lib.hid (NB hK1); have HBX := Lib.hid hbx; clear hT1 hI1 hK1 hbx
    go_wp2_with fail
    go_region
    go_wp2_with fail
    refine bodyPost_ret (v := ansVal ((0, 0), S1.at_, false, S1.err)) (by simp [results, Try.results14, go_sem, ansVal, b0, b1]) rfl ?_
    rw [HF.out]
    refine ⟨rfl, closeX H'.out HT1.out HI1.out HNB.out (Nat.le_refl _) HK1.out ?_⟩
    exact ((Keep.refl _ _).setCell (a := ⟨w.heap.size, 0, none⟩) (fun _ h => h rfl) _).setCell (a := ⟨w.heap.size, 1, none⟩) (fun _ h => h rfl) _ |>.drew
  | true =>
    have hF2 : nextF E S s = frontF S1 s1 := hF
    have HF := Lib.hid hF2
    clear hF hF2
    go_enter Try.func14, Try.ntmps14
    go_wp2_with fail
    refine HBE.out.mono ?_
    rintro e W1 ⟨rfl, hT1, hI1, hK1⟩
    have hbx := hK1.keep.heap (b := w.heap.size) ⟨nbF, by omega, by omega, by omega⟩ HB0.out
    have b0 : W1.cell? ⟨w.heap.size, 0, none⟩ = some (.int .i64 0) := by rw [cell_blk hbx]; rfl
    have b1 : W1.cell? ⟨w.heap.size, 1, none⟩ = some (.int .i64 0) := by rw [cell_blk hbx]; rfl
    have bf0 := frozen_blk hbx 0
    have bf1 := frozen_blk hbx 1
    have HT1 := Lib.hid hT1; have HI1 := Lib.hid hI1; have HK0 := Lib.hid hK1; have HK1 := Lib.hid (HK00.out.trans hK1); have HNB := Lib.hid (NB hK1); have HBX := Lib.hid hbx; clear hT1 hI1 hK1 hbx
    have hbw : w.heap.size < W1.heap.size := World.block_lt_of_cell? W1 _ b0
    have htw : t ≠ w.heap.size := by omega
    have htw' : w.heap.size ≠ t := by omega
    have HS := Lib.hid (show S1.err = S1.err from rfl)

    by_cases h0 : k = 0
    · subst h0
      have hR : frontF S1 s1 = (((0, 0), 0, false, 0), S1, s1) := by unfold frontF; rw [if_pos (.inl HG1.out.len)]
      have HR := Lib.hid hR
      clear hR
      obtain ⟨la1, kc1, -, c1, -⟩ := HT1.out.cells0
      rw [HG1.out.len] at c1
      skip
      go_wp2_with fail
      go_quiet (fail)
      go_wp2_with fail
      refine bodyPost_ret (v := ansVal ((0, 0), 0, false, 0)) (by simp [results, Try.results14, go_sem, ansVal, b0, b1]) rfl ?_
      rw [HF.out, HR.out]
      refine ⟨rfl, closeX H'.out HT1.out HI1.out HNB.out (Nat.le_refl _) HK1.out ?_⟩
      repeat (first | exact Keep.refl _ _ | refine Keep.drew ?_ | refine Keep.drewN ?_ _ | refine Keep.setCell ?_ (fun _ h => h rfl) _)
    · have hwin := HG1.out.win (by omega)
      obtain ⟨kc1, -, c1, -, c3, -, c5, -⟩ := HT1.out.cells (by rw [HG1.out.len]; omega)
      have f5 := HT1.out.frozen 5
      have ht1 := World.block_lt_of_cell? W1 _ c1
      obtain ⟨-, l1, l2, l3⟩ := HT1.out.leaf S1.win (by rw [HG1.out.len]; exact hwin)
      have hL1 := World.block_lt_of_cell? W1 _ l3
      have htL := HT1.out.ntL (by rw [HG1.out.len]; omega)
      have hLt := Ne.symm htL
      rw [HG1.out.len] at c1
      have hk0 : (k == 0) = false := by simpa using h0
      have hk1 : ((k : Int) == 0) = false := by simp; omega
      generalize hwv : S1.win = wv at *
      have HWV := Lib.hid hwv
      clear hwv
      cases hh : (S1.leaves.getD wv default).has with
      | false =>
        have hR : frontF S1 s1 = (((0, 0), 0, false, 0), S1, s1) := by unfold frontF; rw [HWV.out, if_pos (.inr hh)]
        have HR := Lib.hid hR
        rw [hh] at l3
        clear hR hh
        skip
        go_wp2_with fail
        go_quiet (fail)
        go_wp2_with fail
        refine bodyPost_ret (v := ansVal ((0, 0), 0, false, 0)) (by simp [results, Try.results14, go_sem, ansVal, b0, b1]) rfl ?_
        rw [HF.out, HR.out]
        refine ⟨rfl, closeX H'.out HT1.out HI1.out HNB.out (Nat.le_refl _) HK1.out ?_⟩
        repeat (first | exact Keep.refl _ _ | refine Keep.drew ?_ | refine Keep.drewN ?_ _ | refine Keep.setCell ?_ (fun _ h => h rfl) _)
      | true =>
        have hR : frontF S1 s1 = (((S1.leaves.getD wv default).hand, wv, true, 0), { S1 with owed := true }, s1) := by unfold frontF; rw [HWV.out, if_neg (by rw [HG1.out.len, hh]; simp [h0])]
        have HR := Lib.hid hR
        rw [hh] at l3
        clear hR hh
        generalize (S1.leaves.getD wv default).hand = hd at *
        skip
        go_wp2_with fail
        go_quiet (fail)
        go_wp2_with fail
        go_region
        go_wp2_with fail
        have q0 := World.cell?_setCell_same' ((W1.drewN nq).setCell ⟨t, 5, none⟩ (.bool true)) ⟨w.heap.size, 0, none⟩ (.int .i64 hd.1) (by rw [cell_set_ne (show (W1.drewN nq).cell? ⟨w.heap.size, 0, none⟩ = _ from b0) (.inl htw')]; rfl); have q1 := World.cell?_setCell_same' (((W1.drewN nq).setCell ⟨t, 5, none⟩ (.bool true)).setCell ⟨w.heap.size, 0, none⟩ (.int .i64 hd.1)) ⟨w.heap.size, 1, none⟩ (.int .i64 hd.2) (by rw [cell_set_ne (cell_set_ne (show (W1.drewN nq).cell? ⟨w.heap.size, 1, none⟩ = _ from b1) (.inl htw')) (.inr (by simp))]; rfl)
        refine bodyPost_ret (v := ansVal (hd, wv, true, 0)) (by simp [results, Try.results14, go_sem, ansVal, q0, q1]) rfl ?_
        rw [HF.out, HR.out]
        refine ⟨rfl, ?_⟩
        exact closeB (w1 := W1.drewN nq) H'.out (H'.out.keepT _ _ _ _ HI1.out ((Keep.refl _ _).drewN nq)) (HNB.out.still H'.out HI1.out ((Keep.refl _ _).drewN nq)) (Nat.le_refl _) (HT1.out.drewN nq) (HK0.out.trans (H'.out.all HI1.out ((Keep.refl _ _).drewN nq))) HK00.out (by simp) ((HT1.out.drewN nq).put 5 (.bool true) { S1 with owed := true } rfl rfl (fun _ _ => rfl)) ((((Keep.refl _ _).setCell (a := ⟨w.heap.size, 0, none⟩) (fun _ h => h rfl) _).setCell (a := ⟨w.heap.size, 1, none⟩) (fun _ h => h rfl) _).drew)

set_option maxRecDepth 100000 in
set_option maxHeartbeats 16000000 in
/-- A Next that owes the last winner's source an asking. -/
theorem next_owed (H : EnvOk E B0 t L M k F I gs lbs og ob) (n : Nat) (s : σ) (S : TS) (w : World) (hT : TreeAt w t L M S) (hI : I (n + 7 + 1) s w) (hG : Good S k gs lbs og ob) (he : S.err = 0) (hb : S.begun = true) (ho : S.owed = true) :
    Calls Try.prog 14 #[.pointer (some ⟨t, 0, none⟩)] w fun e w' =>
      e = .returned (ansVal (nextF E S s).1) ∧ TreeAt w' t L M (nextF E S s).2.1 ∧ I n (nextF E S s).2.2 w' ∧ Fst F t L M s (nextF E S s).2.2 w w' := by
  obtain ⟨la, kc, -, c1, c3, c4, c5, c6, c7, c8⟩ := hT.cells0
  have f5 := hT.frozen 5
  have ht : t < w.heap.size := World.block_lt_of_cell? w _ c7
  have hfew := hT.few
  have hpos := hG.pos ho
  have hwin := hG.win hpos
  have hF : nextF E S s = (let r := askF E { S with owed := false } s S.win; if r.1 then let q := replayF E r.2.1 r.2.2 S.win; frontF q.1 q.2 else (((0, 0), r.2.1.at_, false, r.2.1.err), r.2.1, r.2.2)) := by unfold nextF; rw [if_neg (by simp [he]), if_neg (by simp [hb]), if_pos ho]
  rw [he] at c7
  rw [hb] at c4
  rw [ho] at c5
  rw [hG.len] at hfew
  have hG0 : Good { S with owed := false } k gs lbs og ob := ⟨hG.len, hG.ord, hG.fns, hG.los, hG.loslen, hG.win, fun h => by cases h⟩
  have hK0 : Keep (fun b => b ≠ t ∧ b ≠ L ∧ b ≠ M) w ((w.setCell ⟨t, 5, none⟩ (.bool false)).alloc (.cells #[.int .i64 0, .int .i64 0] 35)) := (((Keep.refl _ _).setCell (a := ⟨t, 5, none⟩) (fun _ h => h.1 rfl) _).alloc _)
  have hK00 : Fst F t L M s s w ((w.setCell ⟨t, 5, none⟩ (.bool false)).alloc (.cells #[.int .i64 0, .int .i64 0] 35)) := H.own hI hK0
  have hask := ask_any H (n + 7) s { S with owed := false } S.win ((w.setCell ⟨t, 5, none⟩ (.bool false)).alloc (.cells #[.int .i64 0, .int .i64 0] 35)) ((hT.put 5 (.bool false) { S with owed := false } rfl rfl (fun _ _ => rfl)).alloc _) (H.keep2 _ _ _ _ hI hK0) hG.len hwin (hG.fns _ hwin)
  have hG1 := askF_good E hG0 s S.win hwin
  have hbig : B0 ≤ w.heap.size := H.big _ _ _ hI
  have nbF : ¬ F s ((w.setCell ⟨t, 5, none⟩ (.bool false)).alloc (.cells #[.int .i64 0, .int .i64 0] 35)) w.heap.size := fun h => by have := (H.apart _ _ _ hI _ (H.same2 hI hK0 _ h)).2.2.2; omega
  have hM := hT.ltM
  have hL := hT.ltL
  have NB : ∀ {s1 : σ} {W1 : World}, Fst F t L M s s1 ((w.setCell ⟨t, 5, none⟩ (.bool false)).alloc (.cells #[.int .i64 0, .int .i64 0] 35)) W1 → NoBox B0 t L M F s1 W1 w.heap.size := fun h => ⟨hbig, by omega, by omega, by omega, fun hf => by
    rcases h.new _ hf with h1 | h1
    · exact nbF h1
    · simp [World.setCell] at h1; omega⟩
  have HB0 := Lib.hid (show ((w.setCell ⟨t, 5, none⟩ (.bool false)).alloc (.cells #[.int .i64 0, .int .i64 0] 35)).heap[w.heap.size]? = some (.cells #[.int .i64 0, .int .i64 0] 35) by have := alloc_new (w.setCell ⟨t, 5, none⟩ (.bool false)) (.cells #[.int .i64 0, .int .i64 0] 35); rwa [show (w.setCell ⟨t, 5, none⟩ (.bool false)).heap.size = w.heap.size by simp [World.setCell]] at this)
  generalize hr : askF E { S with owed := false } s S.win = r at *
  obtain ⟨rb, S1', s1'⟩ := r
  try simp only at hF hask hG1
  have HBE := Lib.hid hask
  have HG1' := Lib.hid hG1
  have H' := Lib.hid H
  have HK00 := Lib.hid hK00
  have Hr := Lib.hid hr
  have HW := Lib.hid hwin
  have HP := Lib.hid hpos
  clear hT hI H hG hG0 he hb ho c1 c6 c8 hK00 hK0 hr hask hG1 hwin hpos
  cases rb with
  | false =>
    have hF2 : nextF E S s = (((0, 0), S1'.at_, false, S1'.err), S1', s1') := hF
    have HF := Lib.hid hF2
    clear hF hF2
    go_enter Try.func14, Try.ntmps14
    go_wp2_with fail
    refine HBE.out.mono ?_
    rintro e W1 ⟨rfl, hT1, hI1, hK1⟩
    obtain ⟨la1, kc1, -, -, -, -, -, -, d7, d8⟩ := hT1.cells0
    have ht1 : t < W1.heap.size := World.block_lt_of_cell? W1 _ d7
    have hbx := hK1.keep.heap (b := w.heap.size) ⟨nbF, by omega, by omega, by omega⟩ HB0.out
    have b0 : W1.cell? ⟨w.heap.size, 0, none⟩ = some (.int .i64 0) := by rw [cell_blk hbx]; rfl
    have b1 : W1.cell? ⟨w.heap.size, 1, none⟩ = some (.int .i64 0) := by rw [cell_blk hbx]; rfl
    have bf0 := frozen_blk hbx 0
    have bf1 := frozen_blk hbx 1
    have HT1 := Lib.hid hT1; have HI1 := Lib.hid hI1; have HK1 := Lib.hid (HK00.out.trans hK1); have HNB := Lib.hid (NB hK1); have HBX := Lib.hid hbx; clear hT1 hI1 hK1 hbx
    go_wp2_with fail
    go_region
    go_wp2_with fail
    refine bodyPost_ret (v := ansVal ((0, 0), S1'.at_, false, S1'.err)) (by simp [results, Try.results14, go_sem, ansVal, b0, b1]) rfl ?_
    rw [HF.out]
    refine ⟨rfl, closeX H'.out HT1.out (H'.out.down (Nat.le_add_right _ _) HI1.out) HNB.out (Nat.le_refl _) HK1.out ?_⟩
    exact ((Keep.refl _ _).setCell (a := ⟨w.heap.size, 0, none⟩) (fun _ h => h rfl) _).setCell (a := ⟨w.heap.size, 1, none⟩) (fun _ h => h rfl) _ |>.drew
  | true =>
    have hg2 := replayF_good E HG1'.out s1' S.win HW.out
    have hrep := fun W hT hI => replay_any H'.out n s1' S1' S.win W hT hI HG1'.out.len HG1'.out.ord HW.out HG1'.out.los
    have hF1 : nextF E S s = frontF (replayF E S1' s1' S.win).1 (replayF E S1' s1' S.win).2 := hF
    have hwn : S1'.win = S.win := by have := Hr.out; unfold askF at this; simp only at this; split at this <;> (injection this with _ h; injection h with h _; rw [← h])
    generalize hq : replayF E S1' s1' S.win = q at *
    obtain ⟨S1, s1⟩ := q
    try simp only at hF1 hrep hg2
    have HF := Lib.hid hF1
    have HRP := Lib.hid hrep
    have HG1 := Lib.hid hg2
    have HWN := Lib.hid hwn
    clear hF hF1 hrep hg2 hq hwn
    go_enter Try.func14, Try.ntmps14
    go_wp2_with fail
    refine HBE.out.mono ?_
    rintro e W0 ⟨rfl, hT0, hI0, hKa⟩
    obtain ⟨la0, kc0, -, -, d3, -⟩ := hT0.cells0
    rw [HWN.out] at d3
    have HT0 := Lib.hid hT0; have HI0 := Lib.hid hI0; have HKa := Lib.hid hKa; clear hT0 hI0 hKa
    go_wp2_with fail
    refine (HRP.out W0 HT0.out HI0.out).mono ?_
    rintro e W1 ⟨rfl, hT1, hI1, hKb⟩
    have hK1 := HKa.out.trans hKb
    clear hKb
    have hbx := hK1.keep.heap (b := w.heap.size) ⟨nbF, by omega, by omega, by omega⟩ HB0.out
    have b0 : W1.cell? ⟨w.heap.size, 0, none⟩ = some (.int .i64 0) := by rw [cell_blk hbx]; rfl
    have b1 : W1.cell? ⟨w.heap.size, 1, none⟩ = some (.int .i64 0) := by rw [cell_blk hbx]; rfl
    have bf0 := frozen_blk hbx 0
    have bf1 := frozen_blk hbx 1
    have HT1 := Lib.hid hT1; have HI1 := Lib.hid hI1; have HK0 := Lib.hid hK1; have HK1 := Lib.hid (HK00.out.trans hK1); have HNB := Lib.hid (NB hK1); have HBX := Lib.hid hbx; clear hT1 hI1 hK1 hbx
    have hbw : w.heap.size < W1.heap.size := World.block_lt_of_cell? W1 _ b0
    have htw : t ≠ w.heap.size := by omega
    have htw' : w.heap.size ≠ t := by omega

    by_cases h0 : k = 0
    · subst h0
      have hR : frontF S1 s1 = (((0, 0), 0, false, 0), S1, s1) := by unfold frontF; rw [if_pos (.inl HG1.out.len)]
      have HR := Lib.hid hR
      clear hR
      obtain ⟨la1, kc1, -, c1, -⟩ := HT1.out.cells0
      rw [HG1.out.len] at c1
      skip
      go_wp2_with fail
      go_quiet (fail)
      go_wp2_with fail
      refine bodyPost_ret (v := ansVal ((0, 0), 0, false, 0)) (by simp [results, Try.results14, go_sem, ansVal, b0, b1]) rfl ?_
      rw [HF.out, HR.out]
      refine ⟨rfl, closeX H'.out HT1.out HI1.out HNB.out (Nat.le_refl _) HK1.out ?_⟩
      repeat (first | exact Keep.refl _ _ | refine Keep.drew ?_ | refine Keep.drewN ?_ _ | refine Keep.setCell ?_ (fun _ h => h rfl) _)
    · have hwin := HG1.out.win (by omega)
      obtain ⟨kc1, -, c1, -, c3, -, c5, -⟩ := HT1.out.cells (by rw [HG1.out.len]; omega)
      have f5 := HT1.out.frozen 5
      have ht1 := World.block_lt_of_cell? W1 _ c1
      obtain ⟨-, l1, l2, l3⟩ := HT1.out.leaf S1.win (by rw [HG1.out.len]; exact hwin)
      have hL1 := World.block_lt_of_cell? W1 _ l3
      have htL := HT1.out.ntL (by rw [HG1.out.len]; omega)
      have hLt := Ne.symm htL
      rw [HG1.out.len] at c1
      have hk0 : (k == 0) = false := by simpa using h0
      have hk1 : ((k : Int) == 0) = false := by simp; omega
      generalize hwv : S1.win = wv at *
      have HWV := Lib.hid hwv
      clear hwv
      cases hh : (S1.leaves.getD wv default).has with
      | false =>
        have hR : frontF S1 s1 = (((0, 0), 0, false, 0), S1, s1) := by unfold frontF; rw [HWV.out, if_pos (.inr hh)]
        have HR := Lib.hid hR
        rw [hh] at l3
        clear hR hh
        skip
        go_wp2_with fail
        go_quiet (fail)
        go_wp2_with fail
        refine bodyPost_ret (v := ansVal ((0, 0), 0, false, 0)) (by simp [results, Try.results14, go_sem, ansVal, b0, b1]) rfl ?_
        rw [HF.out, HR.out]
        refine ⟨rfl, closeX H'.out HT1.out HI1.out HNB.out (Nat.le_refl _) HK1.out ?_⟩
        repeat (first | exact Keep.refl _ _ | refine Keep.drew ?_ | refine Keep.drewN ?_ _ | refine Keep.setCell ?_ (fun _ h => h rfl) _)
      | true =>
        have hR : frontF S1 s1 = (((S1.leaves.getD wv default).hand, wv, true, 0), { S1 with owed := true }, s1) := by unfold frontF; rw [HWV.out, if_neg (by rw [HG1.out.len, hh]; simp [h0])]
        have HR := Lib.hid hR
        rw [hh] at l3
        clear hR hh
        generalize (S1.leaves.getD wv default).hand = hd at *
        skip
        go_wp2_with fail
        go_quiet (fail)
        go_wp2_with fail
        go_region
        go_wp2_with fail
        have q0 := World.cell?_setCell_same' ((W1.drewN nq).setCell ⟨t, 5, none⟩ (.bool true)) ⟨w.heap.size, 0, none⟩ (.int .i64 hd.1) (by rw [cell_set_ne (show (W1.drewN nq).cell? ⟨w.heap.size, 0, none⟩ = _ from b0) (.inl htw')]; rfl); have q1 := World.cell?_setCell_same' (((W1.drewN nq).setCell ⟨t, 5, none⟩ (.bool true)).setCell ⟨w.heap.size, 0, none⟩ (.int .i64 hd.1)) ⟨w.heap.size, 1, none⟩ (.int .i64 hd.2) (by rw [cell_set_ne (cell_set_ne (show (W1.drewN nq).cell? ⟨w.heap.size, 1, none⟩ = _ from b1) (.inl htw')) (.inr (by simp))]; rfl)
        refine bodyPost_ret (v := ansVal (hd, wv, true, 0)) (by simp [results, Try.results14, go_sem, ansVal, q0, q1]) rfl ?_
        rw [HF.out, HR.out]
        refine ⟨rfl, ?_⟩
        exact closeB (w1 := W1.drewN nq) H'.out (H'.out.keepT _ _ _ _ HI1.out ((Keep.refl _ _).drewN nq)) (HNB.out.still H'.out HI1.out ((Keep.refl _ _).drewN nq)) (Nat.le_refl _) (HT1.out.drewN nq) (HK0.out.trans (H'.out.all HI1.out ((Keep.refl _ _).drewN nq))) HK00.out (by simp [World.setCell]) ((HT1.out.drewN nq).put 5 (.bool true) { S1 with owed := true } rfl rfl (fun _ _ => rfl)) ((((Keep.refl _ _).setCell (a := ⟨w.heap.size, 0, none⟩) (fun _ h => h rfl) _).setCell (a := ⟨w.heap.size, 1, none⟩) (fun _ h => h rfl) _).drew)

/-- NEXT, at every state. -/
theorem next_any (H : EnvOk E B0 t L M k F I gs lbs og ob) (n : Nat) (s : σ) (S : TS) (w : World) (hT : TreeAt w t L M S) (hI : I (n + 127) s w) (hG : Good S k gs lbs og ob) :
    Calls Try.prog 14 #[.pointer (some ⟨t, 0, none⟩)] w fun e w' =>
      e = .returned (ansVal (nextF E S s).1) ∧ TreeAt w' t L M (nextF E S s).2.1 ∧ I n (nextF E S s).2.2 w' ∧ Fst F t L M s (nextF E S s).2.2 w w' := by
  have hfew := hT.few
  rw [hG.len] at hfew
  by_cases he : S.err = 0
  · cases hb : S.begun with
    | false => exact next_begin H n s S w hT (H.down (by simp only [bud]; omega) hI) hG he hb
    | true =>
      cases ho : S.owed with
      | false => exact next_front H n s S w hT (H.down (by omega) hI) hG he hb ho
      | true => exact next_owed H n s S w hT (H.down (by omega) hI) hG he hb ho
  · exact next_err H n s S w hT (H.down (by omega) hI) he
end Go.Proofs.Ytmhdalalicomkaa
