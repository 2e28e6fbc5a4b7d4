/- The document's play: Next, the askings. -/
import Derived.Test.YtmhdalalicomkaaD3
import Derived.Test.YtmhdalalicomkaaB8
namespace Go.Proofs.Ytmhdalalicomkaa
open Go.RowKit

structure PSet (g : PGeo) (fd : List Feed) (sb so : Nat) (la : Nat → Option Addr) (cap : Nat → Nat) (w : World) : Prop where
  ok : g.Ok
  mem : FeedMem w fd sb so g.B1 la cap
  k : fd.length = g.k
  few : g.k ≤ 64
  sa : 0 < g.k → g.sa = some ⟨sb, so, none⟩
theorem PSet.keep {g : PGeo} {fd : List Feed} {sb so : Nat} {la : Nat → Option Addr} {cap : Nat → Nat} {w w' : World} (h : PSet g fd sb so la cap w) (K : Keep (fun b => b < g.B1) w w') : PSet g fd sb so la cap w' := ⟨h.ok, h.mem.keep K, h.k, h.few, h.sa⟩
theorem PFst.low {g : PGeo} {w w' : World} {P : PS} {av : Value} (h : PlayAt w g P av) (o : g.Ok) (f : PFst g w w') : Keep (fun b => b < g.B1) w w' :=
  f.keep.mono (fun b _ hb => ⟨fun ⟨v, h1, h2⟩ => by
    have h3 := h.cells.2.2.2.2.2.1
    rw [h3] at h1
    cases h1
    have := (own_lo h.own b h2).1
    have := o.p
    omega, by have := o.p; omega, by have := o.A; omega, by have := o.H; omega⟩)

theorem PlayAt.still {w W : World} {g : PGeo} {P : PS} {av : Value} (h : PlayAt w g P av) (o : g.Ok) (K : Keep (fun _ => True) w W) : PlayAt W g P av ∧ PFst g w W :=
  ⟨h.all K, h.fst o (K.mono (fun _ _ _ => trivial)) (K.cell trivial h.cells.2.2.2.2.2.1)⟩

set_option maxRecDepth 100000 in
set_option maxHeartbeats 16000000 in
theorem playNext_err (w : World) (g : PGeo) (P : PS) (av : Value) (fd : List Feed) (h : PlayAt w g P av) (o : g.Ok) (he : P.err ≠ 0) :
    Calls Try.prog 15 #[.pointer (some ⟨g.p, 0, none⟩)] w fun e w' => e = .returned (ansVal (playNextF fd P).1) ∧ ∃ av', PlayAt w' g (playNextF fd P).2 av' ∧ PFst g w w' := by
  obtain ⟨-, -, -, -, -, c5, c6, c7⟩ := h.cells
  have l1 := World.block_lt_of_cell? w _ c7
  simp only at l1
  have hF : playNextF fd P = (((0, 0), P.at_, false, P.err), P) := by unfold playNextF; rw [if_pos he]
  rw [hF]
  have HP := Lib.hid h
  have HO := Lib.hid o
  clear h hF o
  go_enter Try.func15, Try.ntmps15
  go_wp2_with fail
  go_region
  go_wp2_with fail
  refine bodyPost_ret (v := ansVal ((0, 0), P.at_, false, P.err)) (by simp [results, Try.results15, go_sem, ansVal]) rfl ?_
  refine ⟨rfl, av, HP.out.still HO.out ?_⟩
  repeat (first | exact Keep.refl _ _ | refine Keep.drew ?_ | refine Keep.drewN ?_ _ | refine Keep.alloc ?_ _)

theorem PlayAt.putFst {w : World} {g : PGeo} {P : PS} {av : Value} (h : PlayAt w g P av) (o : g.Ok) (j : Nat) (hj : j ≠ 5) (v : Value) : PFst g w (w.setCell ⟨g.p, j, none⟩ v) := by
  refine ⟨((Keep.refl _ w).setCell (a := ⟨g.p, j, none⟩) (fun _ hb => hb.2.1 rfl) v), fun b hb => .inl ?_⟩
  obtain ⟨u, h1, h2⟩ := hb
  rw [cell_set_ne h.cells.2.2.2.2.2.1 (.inr (Ne.symm hj))] at h1
  cases h1
  exact ⟨_, h.cells.2.2.2.2.2.1, h2⟩

/-- A box of the call's own, of another type than the play's row, is none of the play's blocks. -/
theorem PlayAt.box {w : World} {g : PGeo} {P : PS} {av : Value} (h : PlayAt w g P av) {bx : Nat} {c : Array Value} (hb : w.heap[bx]? = some (.cells c 35 (0, 0))) : bx ≠ g.p ∧ bx ≠ g.A ∧ bx ≠ g.H ∧ av.ownBlock ≠ some bx := by
  obtain ⟨D, d1, -⟩ := h.given
  obtain ⟨D', d2, -⟩ := h.hand
  refine ⟨fun e => ?_, fun e => ?_, fun e => ?_, fun e => ?_⟩
  · subst e; rw [h.blk] at hb; simp at hb
  · subst e; rw [d1] at hb; simp at hb
  · subst e; rw [d2] at hb; simp at hb
  · obtain ⟨c', fz, hc⟩ := Lib.ownsRow_kind h.own bx e
    rw [hb] at hc
    simp at hc
theorem PlayAt.closeB {w Wa W : World} {g : PGeo} {P : PS} {av : Value} {bx : Nat} {c : Array Value} (h : PlayAt Wa g P av) (hF : PFst g w Wa) (hb : Wa.heap[bx]? = some (.cells c 35 (0, 0))) (hlo : w.heap.size ≤ bx)
    (K : Keep (fun b => b ≠ bx) Wa W) : PlayAt W g P av ∧ PFst g w W := by
  obtain ⟨n1, n2, n3, n4⟩ := h.box hb
  have hP : PlayAt W g P av := h.keep K (Ne.symm n1) (Ne.symm n2) (Ne.symm n3) (fun k hk e => n4 (e ▸ hk))
  refine ⟨hP, ⟨K.os.trans hF.keep.os, K.tape.trans hF.keep.tape, K.output.trans hF.keep.output, Nat.le_trans hF.keep.size K.size, fun b hb hs => ?_⟩, fun b hb => ?_⟩
  · exact (K.block b (Nat.lt_of_lt_of_le hb hF.keep.size) (by omega)).trans (hF.keep.block b hb hs)
  · obtain ⟨v, h1, h2⟩ := hb
    rw [hP.cells.2.2.2.2.2.1] at h1
    cases h1
    exact hF.new b ⟨_, h.cells.2.2.2.2.2.1, h2⟩
theorem playNextF_bad (fd : List Feed) (P : PS) (he : P.err = 0) (h2 : (asksF fd P).err ≠ 0) : playNextF fd P = (((0, 0), (asksF fd P).at_, false, (asksF fd P).err), { asksF fd P with owed := -1 }) := by
  unfold playNextF
  rw [if_neg (by simp [he])]
  simp only
  rw [if_pos h2]
theorem playNextF_none (fd : List Feed) (P : PS) (he : P.err = 0) (h2 : (asksF fd P).err = 0) (h3 : bestF fd { asksF fd P with owed := -1 } fd.length 0 none = none) : playNextF fd P = (((0, 0), 0, false, 0), { asksF fd P with owed := -1 }) := by
  unfold playNextF
  rw [if_neg (by simp [he])]
  simp only
  rw [if_neg (by simp [h2]), h3]
theorem playNextF_some (fd : List Feed) (P : PS) (b : Nat) (he : P.err = 0) (h2 : (asksF fd P).err = 0) (h3 : bestF fd { asksF fd P with owed := -1 } fd.length 0 none = some b) :
    playNextF fd P = ((frontItem fd { asksF fd P with owed := -1 } b, b, true, 0), { asksF fd P with owed := (b : Nat) }) := by
  unfold playNextF
  rw [if_neg (by simp [he])]
  simp only
  rw [if_neg (by simp [h2]), h3]
def bestV : Option Nat → Int
  | none => -1
  | some b => (b : Nat)
theorem playAskAllF_go (fd : List Feed) (n : Nat) (P : PS) (i : Nat) (h : P.err = 0) : playAskAllF fd (n + 1) P i = playAskAllF fd n (playAskF fd P i) (i + 1) := by rw [playAskAllF, if_pos h]
theorem playAskAllF_stop (fd : List Feed) (n : Nat) (P : PS) (i : Nat) (h : P.err ≠ 0) : playAskAllF fd n P i = P := by
  cases n with
  | zero => rfl
  | succ n => unfold playAskAllF; rw [if_neg h]

set_option maxRecDepth 100000 in
set_option maxHeartbeats 16000000 in
theorem playNext_go (w : World) (g : PGeo) (P : PS) (av : Value) (fd : List Feed) (sb so : Nat) (la : Nat → Option Addr) (cap : Nat → Nat) (h : PlayAt w g P av) (st : PSet g fd sb so la cap w) (hG : PGood fd P) (he : P.err = 0) (hn : P.asked.length < 999000) :
    Calls Try.prog 15 #[.pointer (some ⟨g.p, 0, none⟩)] w fun e w' => e = .returned (ansVal (playNextF fd P).1) ∧ ∃ av', PlayAt w' g (playNextF fd P).2 av' ∧ PFst g w w' := by
  obtain ⟨c0, -, -, c3, c4, c5, c6, c7⟩ := h.cells
  have f3 := h.free 3
  have l1 := World.block_lt_of_cell? w _ c7
  simp only at l1
  rw [he] at c7
  have hk := st.k
  have hfew := st.few
  have HP := Lib.hid h
  have HS := Lib.hid st
  have HG := Lib.hid hG
  have HE := Lib.hid he
  clear h st hG he
  go_enter Try.func15, Try.ntmps15
  go_upto_if 30 with (fail)
  go_cut [] (fun wc => ∃ av1, Hid (PlayAt wc g (asksF fd P) av1) ∧ Hid (PFst g (w.alloc (.cells #[.int .i64 0, .int .i64 0] 35)) wc))
  case first =>
    cases hb : P.begun with
    | false =>
      rw [hb] at c3
      have hA : asksF fd P = { playAskAllF fd fd.length P 0 with begun := true } := by unfold asksF; rw [if_pos hb]
      have HA := Lib.hid hA
      have H0 := HP.out.still HS.out.ok ((Keep.refl _ w).alloc (.cells #[.int .i64 0, .int .i64 0] 35))
      have HP0 := Lib.hid H0.1
      have HS0 := Lib.hid (HS.out.keep ((Keep.refl _ w).alloc (.cells #[.int .i64 0, .int .i64 0] 35)))
      clear hA H0
      generalize w.alloc (.cells #[.int .i64 0, .int .i64 0] 35) = w0 at *
      clear hb c0 c3 c4 c5 c6 c7 f3
      go_wp2_with fail
      go_loopw [6] (fun v6 wr => ∃ (i : Nat) (P' : PS) (av' : Value), v6 = .int .i64 (i : Nat) ∧ i ≤ g.k ∧ Hid (PGood fd P') ∧ Hid (PlayAt wr g P' av') ∧ Hid (PSet g fd sb so la cap wr) ∧ Hid (PFst g w0 wr) ∧ Hid (playAskAllF fd (g.k - i) P' i = playAskAllF fd fd.length P 0) ∧ Hid (P'.asked.length ≤ P.asked.length + i))
        (fun v6 _ => g.k - (intOf v6).toNat)
      case atStart => exact ⟨0, P, av, rfl, by omega, HG.out, HP0.out, HS0.out, Fst.refl _ _, by rw [hk]; rfl, Nat.le_refl _⟩
      case round =>
        obtain ⟨i, P', av', rfl, hi, HG', HP', HS', HF', HQ, HL⟩ := hrel
        obtain ⟨d0, -, -, -, -, -, -, d7⟩ := HP'.out.cells
        have m1 := World.block_lt_of_cell? wr _ d7
        simp only at m1
        by_cases hlt : i < g.k
        · by_cases he : P'.err = 0
          · rw [he] at d7
            have HE' := Lib.hid he
            have HAA := Lib.hid (playAsk_any wr g HS'.out.ok P' av' fd sb so la cap i HP'.out HS'.out.mem hk HS'.out.sa hlt (by have := HL.out; omega))
            clear he
            go_wp2_with fail
            refine HAA.out.mono ?_
            rintro e w1 ⟨rfl, av2, hP2, hF2⟩
            have HP2 := Lib.hid hP2
            have HF2 := Lib.hid hF2
            have HS2 := Lib.hid (HS'.out.keep (PFst.low HP'.out HS'.out.ok hF2))
            clear hP2 hF2
            go_wp2_with fail
            go_roundw
            case rel =>
              refine ⟨i + 1, _, av2, by simp, by omega, playAskF_good HG'.out i, HP2.out, HS2.out, HF'.out.trans HF2.out, ?_, ?_⟩
              · have hq := HQ.out
                rw [show g.k - i = (g.k - (i + 1)) + 1 by omega, playAskAllF_go _ _ _ _ HE'.out] at hq
                exact hq
              · show (playAskF fd P' i).asked.length ≤ _
                rw [playAskF_asked]
                have := HL.out
                simp
                omega
            case measure => simp [intOf]; omega
          · have HQ2 : Hid (P' = playAskAllF fd fd.length P 0) := Lib.hid (by rw [← HQ.out, playAskAllF_stop _ _ _ _ he])
            have f3 := HP'.out.free 3
            obtain ⟨-, -, -, d3, -, -, -, -⟩ := HP'.out.cells
            go_wp2_with fail
            go_meet
            case rel =>
              refine ⟨av', ?_, HF'.out.trans ?_⟩
              · rw [HA.out, ← HQ2.out]
                exact HP'.out.put HS'.out.ok 3 (.bool true) { P' with begun := true } rfl rfl rfl rfl
              · exact HP'.out.putFst HS'.out.ok 3 (by decide) _
        · have HQ2 : Hid (P' = playAskAllF fd fd.length P 0) := Lib.hid (by rw [← HQ.out, show g.k - i = 0 by omega]; rfl)
          have f3 := HP'.out.free 3
          obtain ⟨-, -, -, d3, -, -, -, -⟩ := HP'.out.cells
          go_wp2_with fail
          go_meet
          case rel =>
            refine ⟨av', ?_, HF'.out.trans ?_⟩
            · rw [HA.out, ← HQ2.out]
              exact HP'.out.put HS'.out.ok 3 (.bool true) { P' with begun := true } rfl rfl rfl rfl
            · exact HP'.out.putFst HS'.out.ok 3 (by decide) _
    | true =>
      rw [hb] at c3
      have H0 := HP.out.still HS.out.ok ((Keep.refl _ w).alloc (.cells #[.int .i64 0, .int .i64 0] 35))
      have HP0 := Lib.hid H0.1
      have HS0 := Lib.hid (HS.out.keep ((Keep.refl _ w).alloc (.cells #[.int .i64 0, .int .i64 0] 35)))
      clear H0
      by_cases ho : 0 ≤ P.owed
      · have hA : asksF fd P = playAskF fd P P.owed.toNat := by unfold asksF; rw [if_neg (by simp [hb]), if_pos ho]
        have HA := Lib.hid hA
        have hq : ((P.owed.toNat : Nat) : Int) = P.owed := Int.toNat_of_nonneg ho
        have hql : P.owed.toNat < g.k := by have := HG.out.owed; omega
        have HAA := Lib.hid (playAsk_any (w.alloc (.cells #[.int .i64 0, .int .i64 0] 35)) g HS.out.ok P av fd sb so la cap P.owed.toNat HP0.out HS0.out.mem hk HS.out.sa hql (by omega))
        rw [← hq] at c4
        generalize P.owed.toNat = q at *
        clear hA ho hq
        go_wp2_with fail
        refine HAA.out.mono ?_
        rintro e w1 ⟨rfl, av2, hP2, hF2⟩
        have HP2 := Lib.hid hP2
        have HF2 := Lib.hid hF2
        clear hP2 hF2
        go_wp2_with fail
        go_meet
        case rel =>
          refine ⟨av2, ?_, HF2.out⟩
          rw [HA.out]
          exact HP2.out
      · have hA : asksF fd P = P := by unfold asksF; rw [if_neg (by simp [hb]), if_neg ho]
        have HA := Lib.hid hA
        clear hA
        go_wp2_with fail
        go_meet
        case rel =>
          refine ⟨av, ?_, Fst.refl _ _⟩
          rw [HA.out]
          exact HP0.out
  case rest =>
    obtain ⟨av1, HP1, HF1⟩ := hcut
    have HG1 := Lib.hid (asksF_good HG.out).1
    have hB := playNextF_bad fd P HE.out
    have hN := playNextF_none fd P HE.out
    have hS := fun b => playNextF_some fd P b HE.out
    have hbox : wc.heap[w.heap.size]? = some (.cells #[.int .i64 0, .int .i64 0] 35 (0, 0)) := by
      refine HF1.out.keep.heap ?_ (alloc_new w _)
      have hg := lt_of_heap HP.out.blk
      obtain ⟨D, d1, -⟩ := HP.out.given
      obtain ⟨D', d2, -⟩ := HP.out.hand
      have := lt_of_heap d1
      have := lt_of_heap d2
      refine ⟨fun ⟨v, h1, h2⟩ => ?_, by omega, by omega, by omega⟩
      have h3 := ((Keep.refl (fun _ => True) w).alloc (.cells #[.int .i64 0, .int .i64 0] 35)).cell trivial c5
      rw [h3] at h1
      cases h1
      have := (own_lo HP.out.own _ h2).2
      omega
    have hF0 : PFst g w wc := (HP.out.still HS.out.ok ((Keep.refl _ w).alloc (.cells #[.int .i64 0, .int .i64 0] 35))).2.trans HF1.out
    have hS1 : PSet g fd sb so la cap wc := HS.out.keep (PFst.low HP.out HS.out.ok hF0)
    have HF0 := Lib.hid hF0
    have HS1 := Lib.hid hS1
    have HBX := Lib.hid hbox
    have HB := Lib.hid hB
    have HN := Lib.hid hN
    have HSO := Lib.hid hS
    clear hB hN hS hbox hF0 hS1 HF1
    generalize asksF fd P = P1 at *
    obtain ⟨-, -, -, -, d4, -, -, d7⟩ := HP1.out.cells
    have f4 := HP1.out.free 4
    have m1 := World.block_lt_of_cell? wc _ d7
    simp only at m1
    clear c0 c3 c4 c5 c6 c7 f3
    go_upto_region 12 with (fail)
    have HP2 := Lib.hid (HP1.out.put HS1.out.ok 4 (.int .i64 (-1)) { P1 with owed := -1 } rfl rfl rfl rfl)
    have HF2 := Lib.hid (HF0.out.trans (HP1.out.putFst HS1.out.ok 4 (by decide) (.int .i64 (-1))))
    have HS2 := Lib.hid (HS1.out.keep ((Keep.refl _ wc).setCell (a := ⟨g.p, 4, none⟩) (fun _ h => by have := HS1.out.ok.p; simp only at h; omega) (.int .i64 (-1))))
    have HB2 := Lib.hid (set_far (a := ⟨g.p, 4, none⟩) HBX.out (HP1.out.box HBX.out).1 (.int .i64 (-1)))
    have HG2 := Lib.hid (owe_good HG1.out)
    generalize wc.setCell ⟨g.p, 4, none⟩ (.int .i64 (-1)) = W2 at *
    clear d4 d7 f4 m1 HP1 HF0 HS1 HBX
    obtain ⟨d0, d1, d2, d3, d4, d5, d6, d7⟩ := HP2.out.cells
    have f4 := HP2.out.free 4
    have m1 := World.block_lt_of_cell? W2 _ d7
    simp only at m1
    have b0 : W2.cell? ⟨w.heap.size, 0, none⟩ = some (.int .i64 0) := by rw [cell_blk HB2.out]; rfl
    have b1 : W2.cell? ⟨w.heap.size, 1, none⟩ = some (.int .i64 0) := by rw [cell_blk HB2.out]; rfl
    have bf0 := frozen_blk HB2.out 0
    have bf1 := frozen_blk HB2.out 1
    have m2 := lt_of_heap HB2.out
    by_cases he1 : P1.err = 0
    · rw [he1] at d7
      have HE1 := Lib.hid he1
      clear he1
      go_wp2_with fail
      clear d1 d5 d6 d7
      have D4 := Lib.hid d4
      have F4 := Lib.hid f4
      clear d4 f4
      go_loopw [7, 8, 9, 10] (fun v7 v8 v9 v10 wr => ∃ (i : Nat) (best : Option Nat), v7 = .int .i64 (bestV best) ∧ v8 = .int .i64 (i : Nat) ∧ i ≤ g.k ∧ Hid (∀ q, best = some q → q < fd.length ∧ P1.hand.getD q false = true) ∧ Hid (Keep (fun _ => True) W2 wr) ∧
        Hid (bestF fd { P1 with owed := -1 } (g.k - i) i best = bestF fd { P1 with owed := -1 } fd.length 0 none)) (fun _ v8 _ _ _ => g.k - (intOf v8).toNat)
      case atStart => exact ⟨0, none, rfl, rfl, by omega, (fun q h => (by cases h)), Keep.refl _ _, by rw [hk]; rfl⟩
      case round =>
        obtain ⟨i, best, rfl, rfl, hi, HBT, HK, HQ⟩ := hrel
        have c0 := HK.out.cell trivial d0
        have c2 := HK.out.cell trivial d2
        have m3 : g.p < wr.heap.size := Nat.lt_of_lt_of_le m1 HK.out.size
        by_cases hlt : i < g.k
        · have cH : wr.cell? ⟨g.H, i, none⟩ = some (.bool (P1.hand.getD i false)) := HK.out.cell trivial (HP2.out.hnd i hlt)
          cases hh : P1.hand.getD i false with
          | false =>
            rw [hh] at cH
            have HH := Lib.hid hh
            clear hh
            go_wp2_with fail
            go_roundw
            case rel =>
              refine ⟨i + 1, best, rfl, by simp, by omega, HBT.out, ?_, ?_⟩
              · exact HK.out
              · have hq := HQ.out
                rw [show g.k - i = (g.k - (i + 1)) + 1 by omega, bestF] at hq
                unfold bestStep at hq
                rw [if_pos HH.out] at hq
                exact hq
            case measure => simp [intOf]; omega
          | true =>
            rw [hh] at cH
            have HPr := Lib.hid (HP2.out.all HK.out)
            have hg2 := HG2.out.giv i (by omega)
            have hg1 := HG2.out.hnd i (by omega) hh
            have HSr := Lib.hid (HS2.out.keep (HK.out.mono (fun _ _ _ => trivial)))
            have HFA := Lib.hid (fun W (K : Keep (fun _ => True) wr W) => front_any W g HS2.out.ok { P1 with owed := -1 } av1 fd sb so la cap i (HPr.out.all K) (HSr.out.mem.keep (K.mono (fun _ _ _ => trivial))) hk HS2.out.sa hlt hg1 hg2)
            have HH := Lib.hid hh
            clear hh hg1 hg2
            cases hbs : best with
            | none =>
              subst hbs
              unfold bestV
              go_wp2_with fail
              go_roundw
              case rel =>
                refine ⟨i + 1, some i, rfl, by simp, by omega, fun q hq => by cases hq; exact ⟨by omega, HH.out⟩, ?_, ?_⟩
                · exact HK.out
                · have hq := HQ.out
                  rw [show g.k - i = (g.k - (i + 1)) + 1 by omega, bestF] at hq
                  unfold bestStep at hq
                  rw [if_neg (by show ¬ (P1.hand.getD i false = false); rw [HH.out]; decide)] at hq
                  exact hq
              case measure => simp [intOf]; omega
            | some b =>
              subst hbs
              have hbl := (HBT.out b rfl).1
              have hbh := (HBT.out b rfl).2
              have HFB := Lib.hid (fun W (K : Keep (fun _ => True) wr W) => front_any W g HS2.out.ok { P1 with owed := -1 } av1 fd sb so la cap b (HPr.out.all K) (HSr.out.mem.keep (K.mono (fun _ _ _ => trivial))) hk HS2.out.sa (by omega) (HG2.out.hnd b hbl hbh) (HG2.out.giv b hbl))
              have HBH := Lib.hid hbh
              clear hbh
              unfold bestV
              go_wp2_with fail
              refine (HFA.out wr (Keep.refl _ _)).mono ?_
              rintro e w1 ⟨rfl, hK1⟩
              have HK1 := Lib.hid hK1
              clear hK1
              generalize hx : frontItem fd { P1 with owed := -1 } i = x
              have HX := Lib.hid hx
              clear hx
              simp only [It.val]
              go_wp2_with fail
              refine (HFB.out w1 HK1.out).mono ?_
              rintro e w2 ⟨rfl, hK2⟩
              have HK2 := Lib.hid hK2
              clear hK2
              generalize hy : frontItem fd { P1 with owed := -1 } b = y
              have HY := Lib.hid hy
              clear hy
              simp only [It.val]
              have hq := HQ.out
              rw [show g.k - i = (g.k - (i + 1)) + 1 by omega, bestF] at hq
              unfold bestStep at hq
              rw [if_neg (by show ¬ (P1.hand.getD i false = false); rw [HH.out]; decide)] at hq
              simp only at hq
              rw [HX.out, HY.out] at hq
              by_cases hxy : x.1 < y.1
              · rw [if_pos hxy] at hq
                have HQ3 := Lib.hid hq
                clear hq
                go_wp2_with fail
                go_roundw
                case rel =>
                  refine ⟨i + 1, some i, rfl, by simp, by omega, fun q hq => by cases hq; exact ⟨by omega, HH.out⟩, ?_, HQ3.out⟩
                  exact (HK.out.trans (HK1.out.trans HK2.out)).trans (by repeat (first | exact Keep.refl _ _ | refine Keep.drew ?_ | refine Keep.drewN ?_ _ | refine Keep.alloc ?_ _))
                case measure => simp [intOf]; omega
              · rw [if_neg hxy] at hq
                have HQ3 := Lib.hid hq
                clear hq
                go_wp2_with fail
                go_roundw
                case rel =>
                  refine ⟨i + 1, some b, rfl, by simp, by omega, HBT.out, ?_, HQ3.out⟩
                  exact (HK.out.trans (HK1.out.trans HK2.out)).trans (by repeat (first | exact Keep.refl _ _ | refine Keep.drew ?_ | refine Keep.drewN ?_ _ | refine Keep.alloc ?_ _))
                case measure => simp [intOf]; omega
        · have HQ2 : Hid (best = bestF fd { P1 with owed := -1 } fd.length 0 none) := Lib.hid (by rw [← HQ.out, show g.k - i = 0 by omega]; rfl)
          have q0 := HK.out.cell trivial b0
          have q1 := HK.out.cell trivial b1
          have qf0 := HK.out.free (b := w.heap.size) trivial m2 bf0
          have qf1 := HK.out.free (b := w.heap.size) trivial m2 bf1
          have m4 : w.heap.size < wr.heap.size := Nat.lt_of_lt_of_le m2 HK.out.size
          have q4 := HK.out.cell trivial D4.out
          have qf4 := HK.out.free (b := g.p) trivial m1 F4.out
          have HPr := Lib.hid (HP2.out.all HK.out)
          have HBr := Lib.hid (HK.out.heap trivial HB2.out)
          have HFr := Lib.hid (HF2.out.trans (HP2.out.still HS2.out.ok HK.out).2)
          clear b0 b1 bf0 bf1 m2
          cases hbs : best with
          | none =>
            subst hbs
            have HQ3 := Lib.hid (HN.out HE1.out HQ2.out.symm)
            unfold bestV
            go_wp2_with fail
            refine bodyPost_ret (v := ansVal ((0, 0), 0, false, 0)) (by simp [results, Try.results15, go_sem, ansVal, *]) rfl ?_
            rw [HQ3.out]
            exact ⟨rfl, av1, HPr.out.closeB HFr.out HBr.out (Nat.le_refl _) (((Keep.refl _ _).setCell (a := ⟨w.heap.size, 0, none⟩) (fun _ h => h rfl) _).setCell (a := ⟨w.heap.size, 1, none⟩) (fun _ h => h rfl) _)⟩
          | some b =>
            subst hbs
            have HQ3 := Lib.hid (HSO.out b HE1.out HQ2.out.symm)
            have hbl := (HBT.out b rfl).1
            have hbh := (HBT.out b rfl).2
            unfold bestV
            go_wp2_with fail
            have HP4 := Lib.hid (HPr.out.put HS2.out.ok 4 (.int .i64 (b : Nat)) { P1 with owed := (b : Nat) } rfl rfl rfl rfl)
            have HF4 := Lib.hid (HFr.out.trans (HPr.out.putFst HS2.out.ok 4 (by decide) (.int .i64 (b : Nat))))
            have HS4 := Lib.hid ((HS2.out.keep (HK.out.mono (fun _ _ _ => trivial))).keep ((Keep.refl _ wr).setCell (a := ⟨g.p, 4, none⟩) (fun _ h => by have := HS2.out.ok.p; simp only at h; omega) (.int .i64 (b : Nat))))
            have nb := (HPr.out.box HBr.out).1
            have HB4 := Lib.hid (set_far (a := ⟨g.p, 4, none⟩) HBr.out nb (.int .i64 (b : Nat)))
            generalize wr.setCell ⟨g.p, 4, none⟩ (.int .i64 (b : Nat)) = W4 at *
            have HFB := Lib.hid (front_any W4 g HS2.out.ok { P1 with owed := (b : Nat) } av1 fd sb so la cap b HP4.out HS4.out.mem hk HS2.out.sa (by omega) (HG2.out.hnd b hbl hbh) (HG2.out.giv b hbl))
            clear q0 q1 qf0 qf1 m4 q4 qf4 c0 c2 m3 d0 d2 d3 m1 hbh
            refine HFB.out.mono ?_
            rintro e w1 ⟨rfl, hK1⟩
            have HP5 := Lib.hid (HP4.out.all hK1)
            have HF5 := Lib.hid (HF4.out.trans (HP4.out.still HS2.out.ok hK1).2)
            have hb5 := hK1.heap trivial HB4.out
            have q0 : w1.cell? ⟨w.heap.size, 0, none⟩ = some (.int .i64 0) := by rw [cell_blk hb5]; rfl
            have q1 : w1.cell? ⟨w.heap.size, 1, none⟩ = some (.int .i64 0) := by rw [cell_blk hb5]; rfl
            have qf0 := frozen_blk hb5 0
            have qf1 := frozen_blk hb5 1
            have m4 := lt_of_heap hb5
            have HB5 := Lib.hid hb5
            clear hK1 hb5
            have HQ4 : Hid (playNextF fd P = ((frontItem fd { P1 with owed := (b : Nat) } b, b, true, 0), { P1 with owed := (b : Nat) })) := Lib.hid HQ3.out
            clear HQ3 HQ2
            generalize frontItem fd { P1 with owed := (b : Nat) } b = x at *
            simp only [It.val]
            go_wp2_with fail
            refine bodyPost_ret (v := ansVal (x, b, true, 0)) (by simp [results, Try.results15, go_sem, ansVal, *]) rfl ?_
            rw [HQ4.out]
            refine ⟨rfl, av1, HP5.out.closeB HF5.out HB5.out (Nat.le_refl _) ?_⟩
            repeat (first | exact Keep.refl _ _ | refine Keep.drew ?_ | refine Keep.drewN ?_ _ | refine Keep.alloc ?_ _ | refine Keep.setCell ?_ (fun _ h => h rfl) _)
    · have hQ := HB.out he1
      have HQ := Lib.hid hQ
      clear hQ d0 d1 d2 d3 d4 d5
      go_wp2_with fail
      go_region
      go_wp2_with fail
      refine bodyPost_ret (v := ansVal ((0, 0), P1.at_, false, P1.err)) (by simp [results, Try.results15, go_sem, ansVal, *]) rfl ?_
      rw [HQ.out]
      exact ⟨rfl, av1, HP2.out.closeB HF2.out HB2.out (Nat.le_refl _) ((((Keep.refl _ _).setCell (a := ⟨w.heap.size, 0, none⟩) (fun _ h => h rfl) _).setCell (a := ⟨w.heap.size, 1, none⟩) (fun _ h => h rfl) _).drew)⟩

theorem playNext_any (w : World) (g : PGeo) (P : PS) (av : Value) (fd : List Feed) (sb so : Nat) (la : Nat → Option Addr) (cap : Nat → Nat) (h : PlayAt w g P av) (st : PSet g fd sb so la cap w) (hG : PGood fd P) (hn : P.asked.length < 999000) :
    Calls Try.prog 15 #[.pointer (some ⟨g.p, 0, none⟩)] w fun e w' => e = .returned (ansVal (playNextF fd P).1) ∧ ∃ av', PlayAt w' g (playNextF fd P).2 av' ∧ PFst g w w' := by
  by_cases he : P.err = 0
  · exact playNext_go w g P av fd sb so la cap h st hG he hn
  · exact playNext_err w g P av fd h st.ok he
end Go.Proofs.Ytmhdalalicomkaa
