/- The tree's walks: begin. -/
import Derived.Test.YtmhdalalicomkaaB6
namespace Go.Proofs.Ytmhdalalicomkaa
open Go.RowKit
variable {σ : Type} {E : Sys σ} {B0 t L M k : Nat} {F : σ → World → Nat → Prop} {I : Nat → σ → World → Prop} {gs : Nat → FuncId} {lbs : Nat → Array Value} {og : FuncId} {ob : Array Value}

/-- The own block, for a tree of any size. -/
theorem TreeAt.cells0 {w : World} {t L M : Nat} {S : TS} (h : TreeAt w t L M S) : ∃ la kc, (0 < S.leaves.length → la = some ⟨L, 0, none⟩) ∧
    w.cell? ⟨t, 1, none⟩ = some (.slice la S.leaves.length kc) ∧ w.cell? ⟨t, 3, none⟩ = some (.int .i64 (S.win : Nat)) ∧
    w.cell? ⟨t, 4, none⟩ = some (.bool S.begun) ∧ w.cell? ⟨t, 5, none⟩ = some (.bool S.owed) ∧ w.cell? ⟨t, 6, none⟩ = some (.int .i64 S.cmp) ∧
    w.cell? ⟨t, 7, none⟩ = some (.int .i64 S.err) ∧ w.cell? ⟨t, 8, none⟩ = some (.int .i64 (S.at_ : Nat)) := by
  obtain ⟨la, kc, f, g, _⟩ := h.own
  refine ⟨la, kc, g, ?_, ?_, ?_, ?_, ?_, ?_, ?_⟩ <;> (rw [cell_blk f]; rfl)

set_option maxRecDepth 100000 in
set_option maxHeartbeats 4000000 in
theorem begin_any (H : EnvOk E B0 t L M k F I gs lbs og ob) (n : Nat) (s : σ) (S : TS) (w : World) (hT : TreeAt w t L M S) (hI : I (n + bud 6 + k) s w) (hG : Good S k gs lbs og ob) :
    Calls Try.prog 35 #[.pointer (some ⟨t, 0, none⟩)] w fun e w' =>
      e = .returned (.bool (beginF E S s).1) ∧ TreeAt w' t L M (beginF E S s).2.1 ∧ I n (beginF E S s).2.2 w' ∧ Fst F t L M s (beginF E S s).2.2 w w' := by
  obtain ⟨la, kc, hla, c1, -⟩ := hT.cells0
  have hfew := hT.few
  rw [hG.len] at hfew c1 hla
  have HT := Lib.hid hT
  have HI := Lib.hid hI
  have H' := Lib.hid H
  have HG := Lib.hid hG
  have Hla := Lib.hid hla
  clear hT hI H hG hla
  go_enter Try.func35, Try.ntmps35
  go_wp2_with fail
  go_loopw [3, 9] (fun v3 v9 wr => ∃ (i : Nat) (S' : TS) (s' : σ), v9 = .int .i64 i ∧ i ≤ k ∧ Hid (Good S' k gs lbs og ob) ∧ Hid (TreeAt wr t L M S') ∧ Hid (I (n + bud 6 + (k - i)) s' wr) ∧ Hid (Fst F t L M s s' w wr) ∧
      Hid (askAllF E (k - i) S' s' i = askAllF E S.leaves.length S s 0)) (fun _ v9 _ => k - (intOf v9).toNat)
  case atStart => exact ⟨0, S, s, rfl, by omega, HG.out, HT.out, HI.out, Fst.refl _ _, by rw [HG.out.len]; rfl⟩
  case round =>
    obtain ⟨i, S', s', rfl, hi, HG', HT', HI', HK', HF⟩ := hrel
    clear c1
    by_cases hlt : i < k
    · have ha := ask_any H'.out (n + bud 6 + (k - (i + 1))) s' S' i wr HT'.out (by have := HI'.out; rwa [show n + bud 6 + (k - i) = n + bud 6 + (k - (i + 1)) + 1 by omega] at this) HG'.out.len hlt (HG'.out.fns i hlt)
      have hg := askF_good E HG'.out s' i hlt
      have hF := HF.out
      rw [show k - i = (k - (i + 1)) + 1 by omega, askAllF] at hF
      generalize hA : askF E S' s' i = r at *
      obtain ⟨rb, rS, rs⟩ := r
      try simp only at hF ha hg
      have HF1 := Lib.hid hF
      have HA := Lib.hid hA
      have HAA := Lib.hid ha
      have HG1 := Lib.hid hg
      clear hF hA ha hg HF
      cases rb with
      | true =>
        go_wp2_with fail
        refine HAA.out.mono ?_
        rintro e w3 ⟨rfl, hT3, hI3, hK3⟩
        have HT3 := Lib.hid hT3; have HI3 := Lib.hid hI3; have HK3 := Lib.hid hK3; clear hT3 hI3 hK3
        go_wp2_with fail
        go_roundw
        case rel => exact ⟨i + 1, rS, rs, by go_num, by omega, HG1.out, HT3.out, HI3.out, HK'.out.trans HK3.out, by rw [← HF1.out]; rfl⟩
        case measure => simp [intOf]; omega
      | false =>
        go_wp2_with fail
        refine HAA.out.mono ?_
        rintro e w3 ⟨rfl, hT3, hI3, hK3⟩
        have HT3 := Lib.hid hT3; have HI3 := Lib.hid hI3; have HK3 := Lib.hid hK3; clear hT3 hI3 hK3
        go_wp2_with fail
        go_ret
        have hB : beginF E S s = (false, rS, rs) := by
          unfold beginF; rw [← HF1.out]; rfl
        rw [hB]
        exact ⟨rfl, HT3.out, H'.out.down (by omega) HI3.out, HK'.out.trans HK3.out⟩
    · obtain rfl : i = k := by omega
      have hF := HF.out
      rw [Nat.sub_self, askAllF] at hF
      have HF1 := Lib.hid hF
      clear hF HF
      obtain ⟨la', kc', hla', c1, -, c4, -⟩ := HT'.out.cells0
      rw [HG'.out.len] at c1 hla'
      have Hla' := Lib.hid hla'
      clear hla'
      have f4 := HT'.out.frozen 4
      have K2 := Lib.hid ((Keep.refl (fun b => b ≠ t ∧ b ≠ L ∧ b ≠ M) wr).setCell (a := ⟨t, 4, none⟩) (fun _ h => h.1 rfl) (.bool true))
      have HT4 := Lib.hid (HT'.out.put 4 (.bool true) { S' with begun := true } rfl rfl (fun _ _ => rfl))
      by_cases h0 : 0 < i
      · have hgS : Good { S' with begun := true } i gs lbs og ob := ⟨HG'.out.len, HG'.out.ord, HG'.out.fns, HG'.out.los, HG'.out.loslen, HG'.out.win, HG'.out.pos⟩
        have hp := fun hI => play_any H'.out .nilFunc 6 n s' { S' with begun := true } 1 _ HT4.out hI HG'.out.len HG'.out.ord (by omega) (by omega) (by omega)
        have hI4 : I (n + bud 6) s' (wr.setCell ⟨t, 4, none⟩ (.bool true)) := by
          have := HI'.out; rw [Nat.sub_self, Nat.add_zero] at this
          exact H'.out.keep2 _ _ _ _ this K2.out
        have hp1 := hp hI4
        have hB : beginF E S s = (let p := playF E S'.leaves 6 1 S'.losers S'.cmp s'; (true, { S' with begun := true, win := p.1, losers := p.2.1, cmp := p.2.2.1 }, p.2.2.2)) := by
          unfold beginF; rw [← HF1.out]; simp only [if_true]; rw [if_pos (by rw [HG'.out.len]; exact h0)]
        simp only at hp1 hB
        have hlt := playF_lt E S'.leaves 6 1 S'.losers S'.cmp s' (by omega) (by rw [HG'.out.len]; omega) (by rw [HG'.out.len]; omega)
        rw [HG'.out.len] at hlt
        generalize hP : playF E S'.leaves 6 1 S'.losers S'.cmp s' = r at *
        obtain ⟨rw_, rl, rc, rs⟩ := r
        simp only at hp1 hB hlt
        have HPP := Lib.hid hp1
        have HP := Lib.hid hP
        have HBB := Lib.hid hB
        clear hp hI4 hp1 hP hB
        rw [Hla'.out h0] at c1
        go_wp2_with fail
        refine HPP.out.mono ?_
        rintro e w3 ⟨rfl, hT3, hI3, hK3⟩
        obtain ⟨kc3, -, -, -, c3, -⟩ := hT3.cells (show 0 < S'.leaves.length by rw [HG'.out.len]; exact h0)
        have f3 := hT3.frozen 3
        have HT3 := Lib.hid hT3; have HI3 := Lib.hid hI3; have HK3 := Lib.hid hK3; clear hT3 hI3 hK3
        go_wp2_with fail
        go_ret
        rw [HBB.out]
        have K3 : Keep (fun b => b ≠ t ∧ b ≠ L ∧ b ≠ M) w3 _ := ((Keep.refl (fun b => b ≠ t ∧ b ≠ L ∧ b ≠ M) w3).setCell (a := ⟨t, 3, none⟩) (fun _ h => h.1 rfl) (.int .i64 (rw_ : Nat)))
        exact ⟨rfl, HT3.out.put 3 (.int .i64 (rw_ : Nat)) _ rfl rfl (fun _ _ => rfl), H'.out.keep2 _ _ _ _ HI3.out K3, HK'.out.trans ((H'.out.own HI'.out K2.out).trans (HK3.out.trans (H'.out.own HI3.out K3)))⟩
      · obtain rfl : i = 0 := by omega
        have hB : beginF E S s = (true, { S' with begun := true }, s') := by
          unfold beginF; rw [← HF1.out]; simp only [if_true]; rw [if_neg (by rw [HG'.out.len]; omega)]
        have HBB := Lib.hid hB
        clear hB
        go_wp2_with fail
        go_ret
        rw [HBB.out]
        exact ⟨rfl, HT4.out, H'.out.keep2 _ _ _ _ (H'.out.down (by omega) HI'.out) K2.out, HK'.out.trans (H'.out.own HI'.out K2.out)⟩
end Go.Proofs.Ytmhdalalicomkaa
