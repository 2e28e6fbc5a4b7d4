/- The tree's walks: replay. -/
import Derived.Test.YtmhdalalicomkaaB4
namespace Go.Proofs.Ytmhdalalicomkaa
open Go.RowKit
variable {σ : Type} {E : Sys σ} {B0 t L M k : Nat} {F : σ → World → Nat → Prop} {I : Nat → σ → World → Prop} {gs : Nat → FuncId} {lbs : Nat → Array Value} {og : FuncId} {ob : Array Value}

set_option maxRecDepth 100000 in
set_option maxHeartbeats 4000000 in
theorem replay_any (H : EnvOk E B0 t L M k F I gs lbs og ob) (n : Nat) (s : σ) (S : TS) (i : Nat) (w : World) (hT : TreeAt w t L M S) (hI : I (n + 7) s w) (hk : S.leaves.length = k) (hord : S.ord = .func (.func og) #[] ob) (hi : i < k) (hls : ∀ x ∈ S.losers, x < k) :
    Calls Try.prog 37 #[.pointer (some ⟨t, 0, none⟩), .int .i64 i] w fun e w' =>
      e = .returned (.tuple #[]) ∧ TreeAt w' t L M (replayF E S s i).1 ∧ I n (replayF E S s i).2 w' ∧ Fst F t L M s (replayF E S s i).2 w w' := by
  obtain ⟨kc, -, c1, c2, -⟩ := hT.cells (by omega)
  have hfew := hT.few
  rw [hk] at hfew c1 c2
  have HT := Lib.hid hT
  have HI := Lib.hid hI
  have Hk := Lib.hid hk
  have H' := Lib.hid H
  have HO := Lib.hid hord
  have HL := Lib.hid hls
  clear hT hI hk H hord hls
  go_enter Try.func37, Try.ntmps37
  go_wp2_with fail
  go_loopg [1, 4] 7 (fun g v1 v4 w' => ∃ (i' nd : Nat) (ls : List Nat) (c : Int) (s' : σ), v1 = .int .i64 i' ∧ v4 = .int .i64 nd ∧ i' < k ∧ nd < k ∧ Hid (nd < 2 ^ g) ∧ Hid (∀ x ∈ ls, x < k) ∧ Hid (ls.length = k) ∧
      Hid (TreeAt w' t L M { S with losers := ls, cmp := c }) ∧ Hid (I (n + g) s' w') ∧ Hid (Fst F t L M s s' w w') ∧ Hid (upF E S.leaves g nd i' ls c s' = upF E S.leaves 7 ((i + S.leaves.length) / 2) i S.losers S.cmp s))
  case atStart => exact ⟨i, (i + k) / 2, S.losers, S.cmp, s, rfl, by simp, hi, by omega, show (i + k) / 2 < 2 ^ 7 by omega, HL.out, by rw [HT.out.len]; exact Hk.out, HT.out, HI.out, Fst.refl _ _, by rw [Hk.out]; rfl⟩
  case round =>
    obtain ⟨i', nd, ls, c, s', rfl, rfl, hi', hnd, HN, HLS, HLL, HT', HI', HK', HF⟩ := hrel
    clear c1 c2
    by_cases h0 : nd = 0
    · subst h0
      obtain ⟨kc1, -, -, -, d3, -⟩ := HT'.out.cells (show 0 < S.leaves.length by rw [Hk.out]; omega)
      have df := HT'.out.frozen 3
      go_wp2_with fail
      go_end0
      have K2 : Keep (fun b => b ≠ t ∧ b ≠ L ∧ b ≠ M) wr _ := (Keep.refl (fun b => b ≠ t ∧ b ≠ L ∧ b ≠ M) wr).setCell (a := ⟨t, 3, none⟩) (fun _ h => h.1 rfl) (.int .i64 (i' : Nat))
      have hE : upF E S.leaves gk 0 i' ls c s' = (i', ls, c, s') := by cases gk <;> simp [upF]
      have hR : replayF E S s i = ({ S with win := i', losers := ls, cmp := c }, s') := by
        unfold replayF; rw [← HF.out, hE]
      rw [hR]
      exact ⟨rfl, HT'.out.put 3 (.int .i64 (i' : Nat)) { S with win := i', losers := ls, cmp := c } rfl rfl (fun _ _ => rfl), H'.out.keep2 _ _ _ _ (H'.out.down (Nat.le_add_right _ _) HI'.out) K2, HK'.out.trans (H'.out.own HI'.out K2)⟩
    · obtain ⟨g, rfl⟩ : ∃ g, gk = g + 1 := ⟨gk - 1, by
        rcases Nat.eq_zero_or_pos gk with hg | hg
        · subst hg; have := HN.out; simp at this; exact absurd this h0
        · omega⟩
      have hlt : ls.getD nd 0 < k := by
        have := HLL.out
        rw [List.getD_eq_getElem?_getD, List.getElem?_eq_getElem (by omega)]
        exact HLS.out _ (List.getElem_mem _)
      have hb := beats_any H'.out (n + g) s' { S with losers := ls, cmp := c } (ls.getD nd 0) i' wr HT'.out HI'.out Hk.out HO.out hlt hi'
      have hF := HF.out
      rw [upF, if_neg h0] at hF
      simp only at hF hb
      generalize hB : beatsF E S.leaves c s' (ls.getD nd 0) i' = r at *
      obtain ⟨rb, rc, rs⟩ := r
      simp only at hF hb
      have HF1 := Lib.hid hF
      have HB := Lib.hid hB
      have HBB := Lib.hid hb
      clear hF hB hb HF
      obtain ⟨kc1, -, -, c2, -⟩ := HT'.out.cells (show 0 < S.leaves.length by rw [Hk.out]; omega)
      have d := HT'.out.loser nd (show nd < ls.length by rw [HLL.out]; omega)
      rw [show ({ S with losers := ls, cmp := c } : TS).leaves.length = k from Hk.out] at c2
      simp only at d
      have hnd0 : 0 < nd := by omega
      have hhalf : ((nd : Int) / 2) = ((nd / 2 : Nat) : Int) := by omega
      have HH := Lib.hid hhalf
      clear hhalf
      have hN2 : nd / 2 < 2 ^ g := by have := HN.out; rw [Nat.pow_succ] at this; omega
      cases rb with
      | false =>
        go_wp2_with fail
        refine HBB.out.mono ?_
        rintro e w3 ⟨rfl, hT3, hI3, hK3⟩
        have HT3 := Lib.hid hT3; have HI3 := Lib.hid hI3; have HK3 := Lib.hid hK3; clear hT3 hI3 hK3
        go_wp2_with fail
        go_roundg g
        case measure => omega
        case rel => exact ⟨i', nd / 2, ls, rc, rs, rfl, by rw [HH.out], hi', by omega, hN2, HLS, HLL, HT3.out, HI3.out, HK'.out.trans HK3.out, by rw [← HF1.out]; rfl⟩
      | true =>
        go_wp2_with fail
        refine HBB.out.mono ?_
        rintro e w3 ⟨rfl, hT3, hI3, hK3⟩
        clear c2 d
        obtain ⟨kc1, -, -, c2, -⟩ := hT3.cells (show 0 < S.leaves.length by rw [Hk.out]; omega)
        have d := hT3.loser nd (show nd < ls.length by rw [HLL.out]; omega)
        have df := hT3.loserFree nd
        rw [show ({ S with losers := ls, cmp := rc } : TS).leaves.length = k from Hk.out] at c2
        simp only at d
        have hMt : M ≠ t := Ne.symm hT3.ntM
        have HT3 := Lib.hid hT3; have HI3 := Lib.hid hI3; have HK3 := Lib.hid hK3; clear hT3 hI3 hK3
        go_wp2_with fail
        go_region
        go_wp2_with fail
        go_roundg g
        case measure => omega
        case rel =>
          have K2 : Keep (fun b => b ≠ t ∧ b ≠ L ∧ b ≠ M) w3 _ := (Keep.refl (fun b => b ≠ t ∧ b ≠ L ∧ b ≠ M) w3).drew.setCell (a := ⟨M, nd, none⟩) (fun _ h => h.2.2 rfl) (.int .i64 (i' : Nat))
          refine ⟨ls.getD nd 0, nd / 2, ls.set nd i', rc, rs, by simp, by rw [HH.out], hlt, by omega, hN2, ?_, by show (ls.set nd i').length = k; rw [List.length_set]; exact HLL.out, HT3.out.drew.putLoser nd i', H'.out.keep2 _ _ _ _ HI3.out K2, HK'.out.trans (HK3.out.trans (H'.out.own HI3.out K2)), by rw [← HF1.out]; rfl⟩
          intro x hx
          rcases List.mem_or_eq_of_mem_set hx with hx | rfl
          · exact HLS.out x hx
          · exact hi'
end Go.Proofs.Ytmhdalalicomkaa
