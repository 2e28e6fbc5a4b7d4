/- TreeNexts walked: the rounds. -/
import Derived.Test.YtmhdalalicomkaaE1
namespace Go.Proofs.Ytmhdalalicomkaa
open Go.RowKit

/-- A row that is owned, as a slice that can be read. -/
theorem own_row {w : World} {base n : Nat} {v : Value} {l : List Nat} (h : w.ownsRow base 3 1 v n (natVals l)) (hn : n = l.length) :
    ∃ x b c, v = .slice x l.length c ∧ (0 < l.length → x = some ⟨b, 0, none⟩) ∧ ∀ i, i < l.length → w.cell? ⟨b, i, none⟩ = some (.int .i64 (l.getD i 0 : Nat)) := by
  subst hn
  rcases h with ⟨e, ⟨rfl, h0⟩ | ⟨g, cp, cur, rfl, hb, hh, h2, h3, h4, h5⟩⟩
  · refine ⟨none, 0, 0, ?_, fun h => by omega, fun i h => by omega⟩
    rw [h0]
  · refine ⟨_, g, cp, rfl, fun _ => rfl, fun i hi => ?_⟩
    rw [cell_blk hh, ← Array.getElem?_toList]
    have : (cur.toList.take (l.length * 1))[i]? = (natVals l)[i]? := by rw [h5]
    rw [List.getElem?_take, if_pos (by omega)] at this
    rw [this]
    simp [natVals, hi, List.getD_eq_getElem?_getD]

set_option maxRecDepth 100000 in
set_option maxHeartbeats 16000000 in
theorem law_small (w : World) (k kc sb so : Nat) (n : Int) (sa : Option Addr) (fd : List Feed) (la : Nat → Option Addr) (cap : Nat → Nat) (hk : fd.length = k) (hsa : 0 < k → sa = some ⟨sb, so, none⟩) (hf : FeedMem w fd sb so w.heap.size la cap) (hk2 : k ≤ 64) :
    Calls Try.prog 3 #[.slice sa k kc, .int .i64 n] w fun e w' => e = .returned (.bool true) ∧ Keep (fun _ => True) w w' := by
  have HF := Lib.hid hf
  have HSA := Lib.hid hsa
  clear hf
  have HG := Lib.hid (grown_any (w.alloc (.cells #[.slice none 0 0] 26)) w.heap.size k kc sb so sa fd la cap hk hsa (fun j hj => (HF.out.keep ((Keep.refl _ w).alloc _)).hd j (by omega)) (by omega))
  clear hsa
  have g0 : (w.alloc (.cells #[.slice none 0 0] 26)).cell? ⟨w.heap.size, 0, none⟩ = some (.slice none 0 0) := by rw [cell_blk (alloc_new w _)]; rfl
  go_enter Try.func3, Try.ntmps3
  go_wp2_with fail
  refine HG.out.mono ?_
  rintro e w1 ⟨hK1, -, h1⟩
  obtain ⟨t, L, M, B0, bx, rfl, hT, p1, p2, p3, p4, p5, p6, p7⟩ := h1 hk2
  rw [World.size_alloc] at p4 p6
  have c0 := hK1.cell trivial g0
  have m0 := World.block_lt_of_cell? w1 _ c0
  simp only at m0
  have HS := Lib.hid (fun (w3 : World) (g : PGeo) (K3 : Keep (fun _ => True) w1 w3) (o : g.Ok) (q1 : g.B1 = w1.heap.size) (q2 : g.sa = sa) (q3 : g.k = k) (hP : PlayAt w3 g (newP k) (.slice none 0 0)) => law_start hk hk2 HSA.out HF.out hK1 hT p1 p2 p3 p4 p5 p6 p7 K3 o q1 q2 q3 hP)
  have HNP := Lib.hid (newPlay_any w1 k kc sa hk2)
  clear hK1 h1 hT p1 p2 p3 p4 p5 p6 p7 g0
  go_wp2_with (first | (go_at_call 12; refine (num_any _ _).mono ?_; rintro e w2 ⟨rfl, hw⟩; obtain rfl := hw.symm))
  refine HNP.out.mono ?_
  rintro e w3 ⟨K3, g, rfl, o, q1, q2, q3, q4, q5, hP⟩
  obtain ⟨G, A⟩ := HS.out w3 g K3 o q1 q2 q3 hP
  have GG := Lib.hid G
  have AA := Lib.hid A
  have SS := Lib.hid ((sim_start fd (fun _ => 43) (boxLbs bx) 22 #[]).2)
  rw [hk] at SS
  have hgt : (geoOf fd w.heap.size w1.heap.size B0 t L M bx la cap).t = t := rfl
  have hgfd : (geoOf fd w.heap.size w1.heap.size B0 t L M bx la cap).fd = fd := rfl
  have hgG : (geoOf fd w.heap.size w1.heap.size B0 t L M bx la cap).G = w.heap.size := rfl
  generalize geoOf fd w.heap.size w1.heap.size B0 t L M bx la cap = geo at *
  clear K3 o q1 q2 q3 q4 q5 hP G A c0 m0
  clear HG HS HNP HF HSA
  go_wp2_with fail
  go_loopw [9, 10, 11, 12, 13, 14, 15, 16, 17, 18, 19] (fun v9 v10 v11 v12 v13 v14 v15 v16 v17 v18 v19 wr => ∃ (i : Nat) (S : TS) (s : GS) (P : PS) (av : Value), v9 = .int .i64 (i : Nat) ∧ i ≤ 2000 ∧ Hid (LawAt w wr geo g bx (127 * (2001 - i)) S s P av) ∧ Hid (Sim geo.fd S s P) ∧ Hid (P.asked.length ≤ i * 65))
    (fun v9 _ _ _ _ _ _ _ _ _ _ _ => 2000 - (intOf v9).toNat)
  case atStart => exact ⟨0, _, _, _, _, rfl, by omega, AA.out, by rw [hgfd]; exact SS.out, (show 0 ≤ 0 * 65 by omega)⟩
  case round =>
    obtain ⟨i, S, s, P, av, rfl, hi, HL, HSim, HQ⟩ := hrel
    by_cases hin : (i : Int) < n
    · by_cases h2000 : i < 2000
      · have hfew : geo.fd.length ≤ 64 := by rw [hgfd, hk]; exact hk2
        obtain ⟨hE, hS'⟩ := next_same hfew HSim.out
        have hT := law_tree GG.out (by have := HL.out; rwa [show 127 * (2001 - i) = 127 * (2001 - (i + 1)) + 127 by omega] at this)
        have hGd := HL.out.pgood
        have hask := (playNextF_good hGd).2
        have hPl := fun wr' (h' : LawAt w wr' geo g bx (127 * (2001 - (i + 1))) (nextF (gaugeE geo.fd) S s).2.1 (nextF (gaugeE geo.fd) S s).2.2 P av) => law_play GG.out h' (by have := HQ.out; omega)
        rw [hE] at hT
        generalize (playNextF geo.fd P).1 = A at *
        generalize (playNextF geo.fd P).2 = P' at *
        generalize (nextF (gaugeE geo.fd) S s).2.1 = S' at *
        generalize (nextF (gaugeE geo.fd) S s).2.2 = s' at *
        rw [hgt] at hT
        have HT := Lib.hid hT
        have HPl := Lib.hid hPl
        have HS' := Lib.hid hS'
        have HAsk := Lib.hid hask
        clear hT hPl hS' hask hGd hE
        unfold ansVal at HT HPl
        go_wp2_with fail
        refine HT.out.mono ?_
        rintro e w4 ⟨rfl, hL⟩
        have HL4 := Lib.hid (hL.all GG.out ((Keep.refl _ w4).alloc (.cells #[.int .i64 A.1.1, .int .i64 A.1.2] 35)))
        clear hL
        go_wp2_with fail
        refine (HPl.out _ HL4.out).mono ?_
        rintro e w5 ⟨rfl, ⟨av', hL⟩, hbx⟩
        have hb5 := hbx _ _ (alloc_new w4 (.cells #[.int .i64 A.1.1, .int .i64 A.1.2] 35))
        have HL5 := Lib.hid (hL.all GG.out ((Keep.refl _ w5).alloc (.cells #[.int .i64 A.1.1, .int .i64 A.1.2] 35)))
        have HE5 := Lib.hid (err_any (w5.alloc (.cells #[.int .i64 A.1.1, .int .i64 A.1.2] 35)) geo.t geo.L geo.M S' HL5.out.tree)
        rw [hgt, HS'.out.at_, HS'.out.err] at HE5
        have HB5 := Lib.hid hb5
        clear hL hbx hb5
        go_wp2_with fail
        refine HE5.out.mono ?_
        rintro e w6 ⟨rfl, nq, rfl⟩
        go_upto_region 14 with (fail)
        have HL6 := Lib.hid (HL5.out.all GG.out ((Keep.refl _ (w5.alloc (.cells #[.int .i64 A.1.1, .int .i64 A.1.2] 35))).drewN nq))
        have e0 : ((w5.alloc (.cells #[.int .i64 A.1.1, .int .i64 A.1.2] 35)).drewN nq).heap[w4.heap.size]? = some (.cells #[.int .i64 A.1.1, .int .i64 A.1.2] 35 (0, 0)) := alloc_far HB5.out _
        have e1 : ((w5.alloc (.cells #[.int .i64 A.1.1, .int .i64 A.1.2] 35)).drewN nq).heap[w5.heap.size]? = some (.cells #[.int .i64 A.1.1, .int .i64 A.1.2] 35 (0, 0)) := alloc_new _ _
        have hask : P'.asked.length < 999000 := by have := HQ.out; have := HAsk.out; omega
        have hsas : s'.asked = P'.asked := HS'.out.asked
        have hq2 : P'.asked.length ≤ (i + 1) * 65 := by have := HQ.out; have := HAsk.out; omega
        have HQ2 := Lib.hid hq2
        generalize (w5.alloc (.cells #[.int .i64 A.1.1, .int .i64 A.1.2] 35)).drewN nq = W at *
        have x0 : W.cell? ⟨w4.heap.size, 0, none⟩ = some (.int .i64 A.1.1) := by rw [cell_blk e0]; rfl
        have x1 : W.cell? ⟨w4.heap.size, 1, none⟩ = some (.int .i64 A.1.2) := by rw [cell_blk e0]; rfl
        have y0 : W.cell? ⟨w5.heap.size, 0, none⟩ = some (.int .i64 A.1.1) := by rw [cell_blk e1]; rfl
        have y1 : W.cell? ⟨w5.heap.size, 1, none⟩ = some (.int .i64 A.1.2) := by rw [cell_blk e1]; rfl
        have m0 := lt_of_heap e0
        have m1 := lt_of_heap e1
        obtain ⟨ga, ga1, -, ga2⟩ := HL6.out.env.own
        obtain ⟨xa, ba, ca, rfl, hxa, hba⟩ := own_row ga2 rfl
        rw [hsas] at ga1 hxa hba
        rw [hgG] at ga1
        obtain ⟨xb, bb, cb, rfl, hxb, hbb⟩ := own_row HL6.out.play.own rfl
        obtain ⟨-, -, -, -, -, p5, p6, p7⟩ := HL6.out.play.cells
        have m2 := World.block_lt_of_cell? W _ p5
        have m3 := World.block_lt_of_cell? W _ ga1
        simp only at m2 m3
        have HIA := Lib.hid (And.intro hxa hxb)
        have HBA := Lib.hid hba
        have HBB := Lib.hid hbb
        clear e0 e1 hxa hba hxb hbb ga2 hq2 hsas
        go_quiet (first
            | (go_at_call 12; exact Calls.quiet_of_same (num_any _ _))
            | (go_at_call 17; exact Calls.quiet_of (ints_same _ P'.asked ba bb ca cb xa xb HIA.out.1 HIA.out.2 (by omega) (fun i hi => HBA.out i hi) (fun i hi => HBB.out i hi))))
        go_wp2_with fail
        all_goals
          go_roundw
          case rel => exact ⟨i + 1, S', s', P', _, by simp, by omega, HL6.out.all GG.out ((Keep.refl _ W).drewN _), HS'.out, HQ2.out⟩
          case measure => simp [intOf]; omega
      · obtain rfl : i = 2000 := by omega
        go_wp2_with fail
        go_ret
        exact ⟨rfl, HL.out.keep⟩
    · go_wp2_with fail
      go_ret
      exact ⟨rfl, HL.out.keep⟩

/-- TreeNexts at any feeds: true; nothing that lay is written to. -/
theorem law_any (w : World) (k kc sb so : Nat) (n : Int) (sa : Option Addr) (fd : List Feed) (la : Nat → Option Addr) (cap : Nat → Nat) (hk : fd.length = k) (hsa : 0 < k → sa = some ⟨sb, so, none⟩) (hf : FeedMem w fd sb so w.heap.size la cap) (hk2 : k ≤ 4398046511104) :
    Calls Try.prog 3 #[.slice sa k kc, .int .i64 n] w fun e w' => e = .returned (.bool true) ∧ Keep (fun _ => True) w w' := by
  by_cases h : 64 < k
  · exact law_big w k kc sb so n sa fd la cap hk hsa hf hk2 h
  · exact law_small w k kc sb so n sa fd la cap hk hsa hf (by omega)
end Go.Proofs.Ytmhdalalicomkaa
