/- Plain law: Next of the tree is the document's Next. -/
import Derived.Test.YtmhdalalicomkaaP5
namespace Go.Proofs.Ytmhdalalicomkaa

theorem playNextF_front (fd : List Feed) (P : PS) (he : P.err = 0) (h2 : (asksF fd P).err = 0) :
    (playNextF fd P).1 = (match bestF fd { asksF fd P with owed := -1 } fd.length 0 none with | none => (((0, 0), 0, false, 0) : Ans) | some b => (frontItem fd { asksF fd P with owed := -1 } b, b, true, 0)) ∧
    (playNextF fd P).2 = (match bestF fd { asksF fd P with owed := -1 } fd.length 0 none with | none => { asksF fd P with owed := -1 } | some b => { asksF fd P with owed := (b : Nat) }) := by
  cases hb : bestF fd { asksF fd P with owed := -1 } fd.length 0 none with
  | none => rw [playNextF_none fd P he h2 hb]; exact ⟨rfl, rfl⟩
  | some b => rw [playNextF_some fd P b he h2 hb]; exact ⟨rfl, rfl⟩

theorem next_same {fd : List Feed} {S : TS} {s : GS} {P : PS} (hk : fd.length ≤ 64) (h : Sim fd S s P) :
    (nextF (gaugeE fd) S s).1 = (playNextF fd P).1 ∧ Sim fd (nextF (gaugeE fd) S s).2.1 (nextF (gaugeE fd) S s).2.2 (playNextF fd P).2 := by
  by_cases he : P.err = 0
  · have F := h.full he
    have hSe : ¬ S.err ≠ 0 := by rw [h.err, he]; simp
    unfold nextF
    rw [if_neg hSe]
    by_cases hb : S.begun = false
    · rw [if_pos hb]
      have hPb : P.begun = false := by rw [← F.begun]; exact hb
      have hown : S.owed = false ∧ P.owed = -1 := by
        rcases F.owed with h1 | ⟨_, h2, _⟩
        · exact h1
        · rw [hb] at h2; cases h2
      have hA : asksF fd P = { playAskAllF fd fd.length P 0 with begun := true } := by unfold asksF; rw [if_pos hPb]
      have hlen := F.corr.len
      unfold beginF
      rw [hlen]
      rcases askAll_same fd.length F.corr he 0 (by omega) with ⟨lv, s1, g1, g2, g3, g4⟩ | ⟨S1, s1, g1, g2, g3, g4, g5⟩
      · rw [g1]
        have hlv : lv.length = fd.length := g2.len
        have hkeep := playAskAllF_keep fd fd.length P 0
        have e2 : (asksF fd P).err = 0 := by rw [hA]; exact g3
        obtain ⟨q1, q2⟩ := playNextF_front fd P he e2
        rw [q1, q2]
        have hC : ∀ (S' : TS), S'.leaves = lv → Corr fd S' s1 { asksF fd P with owed := -1 } := fun S' hl => corr_set g2 hl (by rw [hA]) (by rw [hA]) (by rw [hA]) (by show (-1 : Int) < _; omega) (by show (-1 : Int) ≤ -1; omega)
        have hat : S.at_ = (asksF fd P).at_ := by rw [hA]; exact h.at_.trans g4.symm
        have her : S.err = (asksF fd P).err := by rw [e2, h.err, he]
        have hbg : (asksF fd P).begun = true := by rw [hA]
        simp only [if_true, hlv]
        by_cases hk0 : 0 < fd.length
        · simp only [hk0, if_true]
          obtain ⟨p1, p2, p3, p4, -⟩ := playF_right (gauge_pure fd) lv 6 1 S.losers S.cmp s1 (by omega) (by omega) (by omega) (by rw [F.los, hlv])
          generalize playF (gaugeE fd) lv 6 1 S.losers S.cmp s1 = pr at p1 p2 p3 p4 ⊢
          obtain ⟨r1, r2, r3, r4⟩ := pr
          simp only at p1 p2 p3 p4 ⊢
          subst p3
          exact front_same (S := { S with leaves := lv, losers := r2, win := r1, begun := true, cmp := r3 }) (hC _ rfl) rfl hown.1 rfl hbg hat her e2 (fun _ => ⟨fun m m1 m2 => p4 m (below_one m m1) m2, p1⟩) (by rw [← hlv]; exact p2)
        · simp only [hk0, if_false]
          exact front_same (S := { S with leaves := lv, begun := true }) (hC _ rfl) rfl hown.1 rfl hbg hat her e2 (fun hh => absurd hh hk0) F.los
      · rw [g1]
        have e2 : (asksF fd P).err ≠ 0 := by rw [hA]; show (playAskAllF fd fd.length P 0).err ≠ 0; rw [g4]; exact g2
        rw [playNextF_bad fd P he e2]
        simp only [Bool.false_eq_true, if_false]
        refine ⟨?_, ?_, ?_, ?_, fun hh => absurd hh e2⟩
        · rw [hA]; simp only; rw [g4, g5]
        · rw [hA]; exact g3
        · rw [hA]; exact g5.symm
        · rw [hA]; exact g4.symm
    · rw [if_neg hb]
      have hb : S.begun = true := by simpa using hb
      have hPb : P.begun = true := by rw [← F.begun]; exact hb
      rcases F.owed with ⟨h1, h2⟩ | ⟨h1, -, h2, h3⟩
      · rw [h1]
        have hA : asksF fd P = P := by unfold asksF; rw [if_neg (by rw [hPb]; decide), if_neg (by rw [h2]; decide)]
        have e2 : (asksF fd P).err = 0 := by rw [hA]; exact he
        obtain ⟨q1, q2⟩ := playNextF_front fd P he e2
        rw [q1, q2, hA]
        simp only [Bool.false_eq_true, if_false]
        exact front_same (P := { P with owed := -1 }) (corr_set F.corr rfl rfl rfl rfl (by show (-1 : Int) < _; omega) (by show (-1 : Int) ≤ -1; omega)) rfl h1 hb hPb h.at_ h.err he (F.tour hb) F.los
      · rw [h1]
        have hA : asksF fd P = playAskF fd P S.win := by
          unfold asksF
          rw [if_neg (by rw [hPb]; decide), if_pos (by rw [h2]; omega), h2]
          rfl
        have hT := F.tour hb (by omega)
        have C0 : Corr fd { S with owed := false } s P := corr_set F.corr rfl rfl rfl rfl F.corr.good.owed F.corr.good.low
        simp only [if_true]
        rcases ask_same C0 he S.win h3 with ⟨lf, s1, g1, g2, g3, g4⟩ | ⟨e, s1, g1, g2, g3, g4, g5⟩
        · rw [g1]
          have e2 : (asksF fd P).err = 0 := by rw [hA]; exact g3
          obtain ⟨q1, q2⟩ := playNextF_front fd P he e2
          rw [q1, q2, hA]
          simp only [if_true]
          unfold replayF
          have hlen := F.corr.len
          have hSm : Same S.leaves (S.leaves.set S.win lf) S.win := ⟨by simp, fun j hj => by rw [getD_set', if_neg (fun (x : S.win = j ∧ j < S.leaves.length) => hj x.1.symm)]⟩
          have hup := upF_right (gauge_pure fd) hSm hT.win.symm 7 (S.win + S.leaves.length) S.losers S.cmp s1 (by omega) (by omega) (below_refl _) (by omega) (by rw [F.los, hlen])
            (fun m m1 m2 _ _ => hT.los m m1 m2) (fun m m1 m2 m3 => by
              have hnb : ¬ Below' m (S.win + S.leaves.length) := fun x => m3 ⟨x, by omega⟩
              rw [hT.los m m1 m2, hSm.Lo m m1 m2 hnb])
          rw [W_leaf _ (S.win + S.leaves.length) (by rw [hSm.len]; omega), hSm.len, Nat.add_sub_cancel] at hup
          simp only [List.length_set]
          obtain ⟨p1, p2, p3, p4⟩ := hup
          generalize upF (gaugeE fd) (S.leaves.set S.win lf) 7 ((S.win + S.leaves.length) / 2) S.win S.losers S.cmp s1 = pr at p1 p2 p3 p4 ⊢
          obtain ⟨r1, r2, r3, r4⟩ := pr
          simp only at p1 p2 p3 p4 ⊢
          subst p3
          exact front_same (S := { S with owed := false, leaves := S.leaves.set S.win lf, losers := r2, win := r1, cmp := r3 }) (P := { playAskF fd P S.win with owed := -1 })
            (corr_set g2 rfl rfl rfl rfl (by show (-1 : Int) < _; omega) (by show (-1 : Int) ≤ -1; omega)) rfl rfl hb (by show (playAskF fd P S.win).begun = true; rw [playAskF_begun]; exact hPb) (by show S.at_ = (playAskF fd P S.win).at_; rw [g4]; exact h.at_) (by show S.err = (playAskF fd P S.win).err; rw [g3, h.err, he]) g3
            (fun _ => ⟨fun m m1 m2 => p4 m m1 (by have : (S.leaves.set S.win lf).length = S.leaves.length := by simp
                                                  have m2 : m < (S.leaves.set S.win lf).length := m2
                                                  omega), p1⟩) (by show r2.length = _; rw [p2, hlen])
        · rw [g1]
          have e2 : (asksF fd P).err ≠ 0 := by rw [hA, g4]; exact g2
          rw [playNextF_bad fd P he e2]
          simp only [Bool.false_eq_true, if_false]
          refine ⟨?_, ?_, ?_, ?_, fun hh => absurd hh e2⟩
          · rw [hA, g4, g5]
          · rw [hA]; exact g3
          · rw [hA]; exact g5.symm
          · rw [hA]; exact g4.symm
  · have hSe : S.err ≠ 0 := by rw [h.err]; exact he
    have e1 : nextF (gaugeE fd) S s = (((0, 0), S.at_, false, S.err), S, s) := by unfold nextF; rw [if_pos hSe]
    have e2 : playNextF fd P = (((0, 0), P.at_, false, P.err), P) := by unfold playNextF; rw [if_pos he]
    rw [e1, e2]
    exact ⟨by rw [h.at_, h.err], h⟩
end Go.Proofs.Ytmhdalalicomkaa
