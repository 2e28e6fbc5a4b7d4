/- TreeNexts walked. -/
import Derived.Test.YtmhdalalicomkaaP6
import Derived.Test.YtmhdalalicomkaaD6
namespace Go.Proofs.Ytmhdalalicomkaa
open Go.RowKit

theorem FeedMem.mono {w : World} {fd : List Feed} {sb so B B' : Nat} {la : Nat → Option Addr} {cap : Nat → Nat} (h : FeedMem w fd sb so B la cap) (hB : B ≤ B') : FeedMem w fd sb so B' la cap :=
  ⟨fun hp => by have := h.sbl hp; omega, h.hd, fun i hi hp => by obtain ⟨lb, lo, e, hl⟩ := h.ne i hi hp; exact ⟨lb, lo, e, by omega⟩, h.it, h.len⟩

/-- Where everything lies. -/
structure LawGeo (w0 : World) (geo : Geo) (g : PGeo) (bx : Nat → Nat) (sb so : Nat) : Prop where
  ok : geo.Ok
  pok : g.Ok
  b1 : g.B1 = geo.base
  k : geo.fd.length = g.k
  few : g.k ≤ 64
  sa : 0 < g.k → g.sa = some ⟨sb, so, none⟩
  mem : FeedMem w0 geo.fd sb so w0.heap.size geo.la geo.cap
  lo : w0.heap.size ≤ geo.base
  loG : w0.heap.size ≤ geo.G
  loB : w0.heap.size ≤ geo.B0
  loab : ∀ i, i < geo.fd.length → w0.heap.size ≤ geo.ab i
  gb : geo.gb = bx
  ib : geo.ib = fun j => bx j + 1
  ab : geo.ab = fun j => bx j + 1 + 1 + 1
  fb : geo.fb = fun j => bx j + 1 + 1

/-- The state between two rounds. -/
structure LawAt (w0 wr : World) (geo : Geo) (g : PGeo) (bx : Nat → Nat) (N : Nat) (S : TS) (s : GS) (P : PS) (av : Value) : Prop where
  tree : TreeAt wr geo.t geo.L geo.M S
  env : GI geo N s wr
  good : Good S geo.fd.length (fun _ => 43) (boxLbs bx) 22 #[]
  play : PlayAt wr g P av
  pgood : PGood geo.fd P
  sep : ∀ b, gF geo s wr b → b ≠ g.p ∧ b ≠ g.A ∧ b ≠ g.H ∧ av.ownBlock ≠ some b
  keep : Keep (fun _ => True) w0 wr

theorem LawAt.all {w0 wr w' : World} {geo : Geo} {g : PGeo} {bx : Nat → Nat} {N : Nat} {S : TS} {s : GS} {P : PS} {av : Value} {sb so : Nat} (G : LawGeo w0 geo g bx sb so) (h : LawAt w0 wr geo g bx N S s P av) (K : Keep (fun _ => True) wr w') : LawAt w0 w' geo g bx N S s P av :=
  ⟨h.tree.keep K trivial trivial trivial, h.env.keep G.ok (K.mono (fun _ _ _ => trivial)), h.good, h.play.all K, h.pgood, fun b hb => h.sep b (gF_same G.ok h.env (K.mono (fun _ _ _ => trivial)) b hb), h.keep.trans K⟩

theorem law_tree {w0 wr : World} {geo : Geo} {g : PGeo} {bx : Nat → Nat} {N : Nat} {S : TS} {s : GS} {P : PS} {av : Value} {sb so : Nat} (G : LawGeo w0 geo g bx sb so) (h : LawAt w0 wr geo g bx (N + 127) S s P av) :
    Calls Try.prog 14 #[.pointer (some ⟨geo.t, 0, none⟩)] wr fun e w' => e = .returned (ansVal (nextF (gaugeE geo.fd) S s).1) ∧ LawAt w0 w' geo g bx N (nextF (gaugeE geo.fd) S s).2.1 (nextF (gaugeE geo.fd) S s).2.2 P av := by
  have hE := gauge_env geo G.ok
  rw [G.gb, G.ib, G.ab, G.fb] at hE
  refine (next_any hE N s S wr h.tree h.env h.good).mono ?_
  rintro e w1 ⟨rfl, h1, h2, h3⟩
  have hp := G.pok.p
  have hA := G.pok.A
  have hH := G.pok.H
  have hb1 := G.b1
  have ht := G.ok.t
  have hL := G.ok.L
  have hM := G.ok.M
  have hfew := G.few
  have hk := G.k
  have hlo := G.lo
  have hG := G.ok.G
  have hbs := G.ok.base
  have nF : ∀ b, (b = g.p ∨ b = g.A ∨ b = g.H ∨ av.ownBlock = some b) → ¬ gF geo s wr b := fun b hb hF => by
    obtain ⟨s1, s2, s3, s4⟩ := h.sep b hF
    rcases hb with e | e | e | e
    · exact s1 e
    · exact s2 e
    · exact s3 e
    · exact s4 e
  have own : ∀ b, av.ownBlock = some b → g.base ≤ b ∧ b < wr.heap.size := fun b hb => own_lo h.play.own b hb
  have lp := lt_of_heap h.play.blk
  obtain ⟨D, d1, -⟩ := h.play.given
  obtain ⟨D', d2, -⟩ := h.play.hand
  have lA := lt_of_heap d1
  have lH := lt_of_heap d2
  refine ⟨rfl, h1, h2, nextF_good _ h.good (by omega) s, ?_, h.pgood, fun b hb => ?_, ?_⟩
  · exact h.play.keep h3.keep ⟨nF _ (.inl rfl), by omega, by omega, by omega⟩ ⟨nF _ (.inr (.inl rfl)), by omega, by omega, by omega⟩ ⟨nF _ (.inr (.inr (.inl rfl))), by omega, by omega, by omega⟩
      (fun k hk => ⟨nF _ (.inr (.inr (.inr hk))), by have := own k hk; omega, by have := own k hk; omega, by have := own k hk; omega⟩)
  · rcases h3.new b hb with hb | hb
    · exact h.sep b hb
    · exact ⟨by omega, by omega, by omega, fun e => by have := own b e; omega⟩
  · have K1 : Keep (fun b => b < w0.heap.size) wr w1 := h3.keep.mono (fun b _ hb => ⟨fun hF => by
      have := G.loG
      rcases hF with rfl | ⟨i, hi, rfl⟩ | ⟨v, v1, v2⟩
      · omega
      · have := G.loab i hi; omega
      · obtain ⟨a, a1, -, a3⟩ := h.env.own
        rw [a1] at v1
        cases v1
        have := (own_lo a3 b v2).1
        omega, by have := G.loB; omega, by have := G.loB; omega, by have := G.loB; omega⟩)
    exact (((Keep.refl (fun b => b < w0.heap.size) w0).trans (h.keep.mono (fun _ _ _ => trivial))).trans K1).mono (fun _ hb _ => hb)

theorem law_play {w0 wr : World} {geo : Geo} {g : PGeo} {bx : Nat → Nat} {N : Nat} {S : TS} {s : GS} {P : PS} {av : Value} {sb so : Nat} (G : LawGeo w0 geo g bx sb so) (h : LawAt w0 wr geo g bx N S s P av) (hn : P.asked.length < 999000) :
    Calls Try.prog 15 #[.pointer (some ⟨g.p, 0, none⟩)] wr fun e w' => e = .returned (ansVal (playNextF geo.fd P).1) ∧ (∃ av', LawAt w0 w' geo g bx N S s (playNextF geo.fd P).2 av') ∧ ∀ (b : Nat) (c : Array Value), wr.heap[b]? = some (Obj.cells c 35 (0, 0)) → w'.heap[b]? = some (Obj.cells c 35 (0, 0)) := by
  have hp := G.pok.p
  have hA := G.pok.A
  have hH := G.pok.H
  have hb1 := G.b1
  have ht := G.ok.t
  have hL := G.ok.L
  have hM := G.ok.M
  have hlo := G.lo
  have hG := G.ok.G
  have hbs := G.ok.base
  refine (playNext_any wr g P av geo.fd sb so geo.la geo.cap h.play ⟨G.pok, (G.mem.keep (h.keep.mono (fun _ _ _ => trivial))).mono (by omega), G.k, G.few, G.sa⟩ h.pgood hn).mono ?_
  rintro e w1 ⟨rfl, av', h1, h2⟩
  have own : ∀ b, av.ownBlock = some b → g.base ≤ b ∧ b < wr.heap.size := fun b hb => own_lo h.play.own b hb
  have hc5 := h.play.cells.2.2.2.2.2.1
  have npF : ∀ b, pF g () wr b → av.ownBlock = some b := fun b ⟨v, v1, v2⟩ => by rw [hc5] at v1; cases v1; exact v2
  have K : Keep (fun b => gF geo s wr b ∨ b < geo.B0) wr w1 := h2.keep.mono (fun b _ hb => by
    rcases hb with hb | hb
    · obtain ⟨s1, s2, s3, s4⟩ := h.sep b hb
      exact ⟨fun x => s4 (npF b x), s1, s2, s3⟩
    · exact ⟨fun x => by have := own b (npF b x); omega, by omega, by omega, by omega⟩)
  have KT : Keep (fun b => b < geo.base) wr w1 := h2.keep.mono (fun b _ hb => ⟨fun x => by have := own b (npF b x); omega, by omega, by omega, by omega⟩)
  refine ⟨rfl, ⟨av', h.tree.keep KT ht.2 hL.2 hM.2, h.env.keep G.ok K, h.good, h1, (playNextF_good h.pgood).1, fun b hb => ?_, ?_⟩, fun b c hb => by
    obtain ⟨n1, n2, n3, n4⟩ := h.play.box hb
    exact h2.keep.heap ⟨fun x => n4 (npF b x), n1, n2, n3⟩ hb⟩
  · have hb := gF_same G.ok h.env K b hb
    obtain ⟨s1, s2, s3, s4⟩ := h.sep b hb
    refine ⟨s1, s2, s3, fun e => ?_⟩
    have hbl : b < wr.heap.size := by
      rcases hb with rfl | ⟨i, hi, rfl⟩ | ⟨v, v1, v2⟩
      · have := h.env.big; omega
      · have := (G.ok.ab i hi).1; have := h.env.big; omega
      · obtain ⟨a, a1, -, a3⟩ := h.env.own
        rw [a1] at v1
        cases v1
        exact (own_lo a3 b v2).2
    rcases h2.new b ⟨av', h1.cells.2.2.2.2.2.1, e⟩ with x | x
    · exact s4 (npF b x)
    · omega
  · have K1 : Keep (fun b => b < w0.heap.size) wr w1 := KT.mono (fun b _ hb => by omega)
    exact (((Keep.refl (fun b => b < w0.heap.size) w0).trans (h.keep.mono (fun _ _ _ => trivial))).trans K1).mono (fun _ hb _ => hb)

set_option maxRecDepth 100000 in
set_option maxHeartbeats 16000000 in
theorem law_big (w : World) (k kc sb so : Nat) (n : Int) (sa : Option Addr) (fd : List Feed) (la : Nat → Option Addr) (cap : Nat → Nat) (hk : fd.length = k) (hsa : 0 < k → sa = some ⟨sb, so, none⟩) (hf : FeedMem w fd sb so w.heap.size la cap) (hk2 : k ≤ 4398046511104) (hbig : 64 < k) :
    Calls Try.prog 3 #[.slice sa k kc, .int .i64 n] w fun e w' => e = .returned (.bool true) ∧ Keep (fun _ => True) w w' := by
  have HF := Lib.hid hf
  clear hf
  go_enter Try.func3, Try.ntmps3
  have K0 : Keep (fun _ => True) w (w.alloc (.cells #[.slice none 0 0] 26)) := (Keep.refl _ w).alloc _
  have HG := Lib.hid (grown_any (w.alloc (.cells #[.slice none 0 0] 26)) w.heap.size k kc sb so sa fd la cap hk hsa (fun j hj => (HF.out.keep ((Keep.refl _ w).alloc _)).hd j (by omega)) hk2)
  have g0 : (w.alloc (.cells #[.slice none 0 0] 26)).cell? ⟨w.heap.size, 0, none⟩ = some (.slice none 0 0) := by rw [cell_blk (alloc_new w _)]; rfl
  have HK0 := Lib.hid K0
  clear K0
  go_wp2_with fail
  refine HG.out.mono ?_
  rintro e w1 ⟨hK, h1, -⟩
  obtain rfl := h1 hbig
  have c0 := hK.cell trivial g0
  have m0 := World.block_lt_of_cell? w1 _ c0
  simp only at m0
  have HK := Lib.hid hK
  clear hK h1 g0
  go_wp2_with (first | (go_at_call 12; refine (num_any _ _).mono ?_; rintro e w2 ⟨rfl, rfl⟩))
  go_ret
  exact ⟨by first | rfl | simp, HK0.out.trans HK.out⟩

def geoOf (fd : List Feed) (G base B0 t L M : Nat) (bx : Nat → Nat) (la : Nat → Option Addr) (cap : Nat → Nat) : Geo :=
  ⟨fd, G, base, B0, t, L, M, bx, fun j => bx j + 1, fun j => bx j + 1 + 1 + 1, fun j => bx j + 1 + 1, la, cap⟩
def newGS (k : Nat) : GS := ⟨List.replicate k 0, []⟩

theorem sim_start (fd : List Feed) (gs : Nat → FuncId) (lbs : Nat → Array Value) (og : FuncId) (ob : Array Value) : PGood fd (newP fd.length) ∧ Sim fd (newS gs lbs og ob fd.length) (newGS fd.length) (newP fd.length) := by
  have hg : PGood fd (newP fd.length) := ⟨by simp [newP], by simp [newP], fun i hi => by simp [newP, List.getD_eq_getElem?_getD, hi], fun i hi hh => by simp [newP, List.getD_eq_getElem?_getD, hi] at hh, by show (-1 : Int) < _; omega, by show (-1 : Int) ≤ -1; omega⟩
  refine ⟨hg, rfl, rfl, rfl, fun _ => ⟨⟨newLeaves_length _ _ _, rfl, rfl, hg, fun i hi => ?_, fun i hi hh => ?_⟩, rfl, .inl ⟨rfl, rfl⟩, fun h => (by cases h), by simp [newS]⟩⟩
  · rw [show (newS gs lbs og ob fd.length).leaves = newLeaves gs lbs fd.length from rfl, newLeaves_get _ _ _ _ hi]
    simp [newP, List.getD_eq_getElem?_getD, hi]
  · simp [newP, List.getD_eq_getElem?_getD, hi] at hh

theorem good_start (bx : Nat → Nat) (k : Nat) : Good (newS (fun _ => 43) (boxLbs bx) 22 #[] k) k (fun _ => 43) (boxLbs bx) 22 #[] :=
  ⟨newLeaves_length _ _ _, rfl, fun i hi => by rw [show (newS (fun _ => 43) (boxLbs bx) 22 #[] k).leaves = newLeaves (fun _ => 43) (boxLbs bx) k from rfl, newLeaves_get _ _ _ _ hi]; rfl, fun x hx => by simp [newS] at hx; omega, by simp [newS], fun h => h, fun h => by cases h⟩

theorem law_start {w w1 w3 : World} {k sb so t L M B0 : Nat} {fd : List Feed} {la : Nat → Option Addr} {cap : Nat → Nat} {bx : Nat → Nat} {g : PGeo} {sa : Option Addr} (hk : fd.length = k) (hk2 : k ≤ 64) (hsa : 0 < k → sa = some ⟨sb, so, none⟩) (hf : FeedMem w fd sb so w.heap.size la cap)
    (K1 : Keep (fun _ => True) (w.alloc (.cells #[.slice none 0 0] 26)) w1) (hT : TreeAt w1 t L M (newS (fun _ => 43) (boxLbs bx) 22 #[] k)) (h1 : B0 ≤ t) (h2 : B0 ≤ L) (h3 : B0 ≤ M) (h4 : w.heap.size + 1 ≤ B0)
    (hbx : ∀ j, j < k → SrcBoxes w1 w.heap.size j (bx j) (la j) (fd.getD j default).items.length (cap j) (fd.getD j default).fail) (hlo : ∀ j, j < k → w.heap.size + 1 ≤ bx j ∧ bx j + 4 ≤ B0) (hsep : ∀ j j', j < j' → j' < k → bx j + 4 ≤ bx j')
    (K3 : Keep (fun _ => True) w1 w3) (o : g.Ok) (gb1 : g.B1 = w1.heap.size) (gsa : g.sa = sa) (gk : g.k = k) (hP : PlayAt w3 g (newP k) (.slice none 0 0)) :
    LawGeo w (geoOf fd w.heap.size w1.heap.size B0 t L M bx la cap) g bx sb so ∧ LawAt w w3 (geoOf fd w.heap.size w1.heap.size B0 t L M bx la cap) g bx 254127 (newS (fun _ => 43) (boxLbs bx) 22 #[] k) (newGS k) (newP k) (.slice none 0 0) := by
  have hwT := hT.ltT
  have hwL := hT.ltL
  have hwM := hT.ltM
  have K01 : Keep (fun _ => True) w w1 := ((Keep.refl (fun _ => True) w).alloc _).trans K1
  have gOk : (geoOf fd w.heap.size w1.heap.size B0 t L M bx la cap).Ok := by
    refine ⟨by show w.heap.size < B0; omega, by show B0 ≤ w1.heap.size; omega, ⟨h1, hwT⟩, ⟨h2, hwL⟩, ⟨h3, hwM⟩, fun i hi => ?_, fun i hi => ?_, fun i hi => ?_, fun i hi => ?_, fun i j hi hj => ?_, fun i hi j hj => ?_, hf.len⟩
    · have hi : i < fd.length := hi
      have := hlo i (by omega)
      exact ⟨by show bx i < B0; omega, by show bx i ≠ w.heap.size; omega⟩
    · have hi : i < fd.length := hi
      have := hlo i (by omega)
      exact ⟨by show bx i + 1 < B0; omega, by show bx i + 1 ≠ w.heap.size; omega⟩
    · have hi : i < fd.length := hi
      have := hlo i (by omega)
      exact ⟨by show bx i + 1 + 1 < B0; omega, by show bx i + 1 + 1 ≠ w.heap.size; omega⟩
    · have hi : i < fd.length := hi
      have := hlo i (by omega)
      exact ⟨by show bx i + 1 + 1 + 1 < B0; omega, by show bx i + 1 + 1 + 1 ≠ w.heap.size; omega⟩
    · have hi : i < fd.length := hi
      have hj : j < fd.length := hj
      show bx i ≠ bx j + 1 + 1 + 1 ∧ bx i + 1 ≠ bx j + 1 + 1 + 1 ∧ bx i + 1 + 1 ≠ bx j + 1 + 1 + 1 ∧ (i ≠ j → bx i + 1 + 1 + 1 ≠ bx j + 1 + 1 + 1)
      rcases Nat.lt_trichotomy i j with h | h | h
      · have := hsep i j h (by omega); omega
      · subst h; omega
      · have := hsep j i h (by omega); omega
    · have hi : i < fd.length := hi
      obtain ⟨lb, lo, e, hl⟩ := hf.ne i hi (by have hj : j < (fd.getD i default).items.length := hj; omega)
      refine ⟨lb, lo, e, by show lb < B0; omega, by show lb ≠ w.heap.size; omega, fun i' hi' => ?_⟩
      have hi' : i' < fd.length := hi'
      have := hlo i' (by omega)
      show lb ≠ bx i' + 1 + 1 + 1
      omega
  have hf1 := hf.keep (K01.mono (fun _ _ _ => trivial))
  have hGI : GI (geoOf fd w.heap.size w1.heap.size B0 t L M bx la cap) 254127 (newGS k) w1 := by
    refine ⟨by show 0 + 254127 < 1000000; omega, by show (List.replicate k 0).length = fd.length; simp [hk], fun i hi => ?_, Nat.le_refl _, fun i hi => ?_, fun i hi j hj lb lo e => ?_, .slice none 0 0, ?_, ?_, World.ownsRow_nil _ _ _ _⟩
    · have hi : i < fd.length := hi
      show (List.replicate k 0).getD i 0 ≤ _
      simp [List.getD_eq_getElem?_getD, show i < k by omega]
    · have hi : i < fd.length := hi
      have hb := hbx i (by omega)
      show w1.cell? ⟨bx i, 0, none⟩ = _ ∧ w1.cell? ⟨bx i + 1, 0, none⟩ = _ ∧ w1.cell? ⟨bx i + 1 + 1 + 1, 0, none⟩ = some (.int .i64 ((List.replicate k 0).getD i 0 : Nat)) ∧ w1.frozen? ⟨bx i + 1 + 1 + 1, 0, none⟩ = false ∧ w1.cell? ⟨bx i + 1 + 1, 0, none⟩ = _ ∧ w1.cell? ⟨bx i + 1 + 1, 1, none⟩ = _
      refine ⟨by rw [cell_blk hb.b0]; rfl, by rw [cell_blk hb.b1]; rfl, ?_, frozen_blk hb.b3 0, by rw [cell_blk hb.b2]; rfl, by rw [cell_blk hb.b2]; rfl⟩
      rw [cell_blk hb.b3]
      simp [List.getD_eq_getElem?_getD, show i < k by omega]
    · exact hf1.it i hi j hj lb lo e
    · show w1.cell? ⟨w.heap.size, 0, none⟩ = _
      exact K1.cell trivial (by rw [cell_blk (alloc_new w _)]; rfl)
    · exact frozen_blk (K1.heap trivial (alloc_new w _)) 0
  obtain ⟨pg, -⟩ := sim_start fd (fun _ => 43) (boxLbs bx) 22 #[]
  rw [hk] at pg
  refine ⟨⟨gOk, o, gb1, by show fd.length = g.k; omega, by omega, fun h => by rw [gsa]; exact hsa (by omega), hf, by show w.heap.size ≤ w1.heap.size; omega, Nat.le_refl _, by show w.heap.size ≤ B0; omega, fun i hi => ?_, rfl, rfl, rfl, rfl⟩, ?_⟩
  · have hi : i < fd.length := hi
    have := hlo i (by omega)
    show w.heap.size ≤ bx i + 1 + 1 + 1
    omega
  · have hGI3 := hGI.keep gOk (K3.mono (fun _ _ _ => trivial))
    refine ⟨hT.keep K3 trivial trivial trivial, hGI3, by show Good _ fd.length _ _ _ _; rw [hk]; exact good_start bx k, hP, pg, fun b hb => ?_, K01.trans K3⟩
    have hb := gF_same gOk hGI (K3.mono (fun _ _ _ => trivial)) b hb
    have hlt : b < w1.heap.size := by
      rcases hb with rfl | ⟨i, hi, rfl⟩ | ⟨v, v1, v2⟩
      · show w.heap.size < w1.heap.size; omega
      · have hi : i < fd.length := hi
        have := hlo i (by omega)
        show bx i + 1 + 1 + 1 < w1.heap.size
        omega
      · have : w1.cell? ⟨w.heap.size, 0, none⟩ = some (.slice none 0 0) := K1.cell trivial (by rw [cell_blk (alloc_new w _)]; rfl)
        have v1 : w1.cell? ⟨w.heap.size, 0, none⟩ = some v := v1
        rw [this] at v1
        cases v1
        cases v2
    have := o.p
    have := o.A
    have := o.H
    exact ⟨by omega, by omega, by omega, fun e => by cases e⟩

end Go.Proofs.Ytmhdalalicomkaa
