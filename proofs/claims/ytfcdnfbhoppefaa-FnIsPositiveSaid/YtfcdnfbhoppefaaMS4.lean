/- The planner: add, node. -/
import Derived.Test.YtfcdnfbhoppefaaMS3
namespace Go.AM
set_option linter.unusedVariables false
set_option linter.unusedSimpArgs false
set_option maxRecDepth 100000
/- (*loop.example/dataflow/spec.planner).add: number 224 -/
def spec_planner_add.ir : AF := ⟨[(0, .any), (1, .any)], 37, [],
 (.seq none
 (.reg none [⟨0, (some 3), .box (.t 1), .any, none, []⟩])
 (.seq none
 (.reg (some [0, 0, 2, 6, 14, 0, 32, 96, 224, 511, 1023]) [⟨0, (some 5), .load (some 10) (.t 3), .any, none, []⟩,
    ⟨1, (some 6), .move (.t 0), .any, none, []⟩,
    ⟨2, (some 7), .nilck (.t 6), .any, none, []⟩,
    ⟨3, (some 8), .fld 3 (.t 7), .any, none, []⟩,
    ⟨4, (some 9), .load none (.t 8), .any, none, []⟩,
    ⟨5, (some 10), .move (.t 0), .any, none, []⟩,
    ⟨6, (some 11), .nilck (.t 10), .any, none, []⟩,
    ⟨7, (some 12), .fld 1 (.t 11), .any, none, []⟩,
    ⟨8, (some 13), .load none (.t 12), .any, none, []⟩,
    ⟨9, (some 14), .call 240 [(.t 5), (.t 9), (.t 13)], (.int .i64), none, []⟩,
    ⟨10, (some 4), .move (.t 14), .any, none, []⟩])
 (.seq none
 (.reg none [⟨0, (some 15), .move (.t 4), .any, none, []⟩,
    ⟨1, (some 16), .bin .gtr (.t 15) (.c (.int .i64 (0))), .any, none, []⟩])
 (.cond (.t 16)
 (.seq none
  (.reg (some [0, 0, 2, 6, 14, 0, 32, 126, 255, 511, 1023]) [⟨0, (some 17), .move (.t 0), .any, none, []⟩,
     ⟨1, (some 18), .move (.t 0), .any, none, []⟩,
     ⟨2, (some 19), .nilck (.t 18), .any, none, []⟩,
     ⟨3, (some 20), .fld 2 (.t 19), .any, none, []⟩,
     ⟨4, (some 21), .load none (.t 20), .any, none, []⟩,
     ⟨5, (some 22), .load (some 10) (.t 3), .any, none, []⟩,
     ⟨6, (some 23), .buildS 1 10 [.int .i64 0, .int .i64 0, .int .i64 0, .int .i64 0, .nils, .int .i64 0, .int .i64 0, .int .i64 0, .int .i64 0, .int .i64 0] [(0, 10, (.t 22))], .any, none, [⟨21, none, (.t 20), none⟩]⟩,
     ⟨7, (some 24), .app 10 96 (.t 21) (.t 23), .any, none, []⟩,
     ⟨8, (some 25), .nilck (.t 17), .any, none, []⟩,
     ⟨9, (some 26), .fld 2 (.t 25), .any, none, []⟩,
     ⟨10, none, .store 1 (.t 26) (.t 24), .any, none, []⟩])
  (.reg none [⟨0, (some 27), .move (.t 0), .any, none, []⟩,
    ⟨1, (some 28), .move (.t 0), .any, none, []⟩,
    ⟨2, (some 29), .nilck (.t 28), .any, none, []⟩,
    ⟨3, (some 30), .fld 3 (.t 29), .any, none, []⟩,
    ⟨4, (some 31), .load none (.t 30), .any, none, []⟩,
    ⟨5, (some 32), .move (.t 4), .any, none, []⟩,
    ⟨6, (some 33), .buildS 1 1 [.int .i64 0] [(0, 1, (.t 32))], .any, none, []⟩,
    ⟨7, (some 34), .app 1 8 (.t 31) (.t 33), .any, none, []⟩,
    ⟨8, (some 35), .nilck (.t 27), .any, none, []⟩,
    ⟨9, (some 36), .fld 3 (.t 35), .any, none, []⟩,
    ⟨10, none, .store 1 (.t 36) (.t 34), .any, none, []⟩]))
 (.skip)))))⟩
theorem spec_planner_add_run (T : Nat → Option AF) (hT : T 224 = some spec_planner_add.ir) (k : Nat) (a0 : AV) (a1 : AV) (h : AH) : run T (k + 1) 224 [a0, a1] h =
 (fun (call : Nat → List AV → AH → O) => pCells a1 fun c1 =>
 pNew h c1 fun b2 h3 =>
 pLd h3 (some 10) ((.ptr b2 0)) fun v4 =>
 pNil a0 fun v5 =>
 pFld 3 v5 fun v6 =>
 pLd h3 none v6 fun v7 =>
 pNil a0 fun v8 =>
 pFld 1 v8 fun v9 =>
 pLd h3 none v9 fun v10 =>
 pCallI call .i64 240 [v4, v7, v10] h3 fun n12 h11 =>
 bif (decide (n12 > (0))) then (pNil a0 fun v13 =>
 pFld 2 v13 fun v14 =>
 pLd h11 none v14 fun v15 =>
 pLd h11 (some 10) ((.ptr b2 0)) fun v16 =>
 pFill [.int .i64 0, .int .i64 0, .int .i64 0, .int .i64 0, .nils, .int .i64 0, .int .i64 0, .int .i64 0, .int .i64 0, .int .i64 0] [(0, 10, v16)] fun c17 =>
 pNew h11 c17 fun b18 h19 =>
 need (aLd h19 none v14 = some v15) (pApp h19 10 96 v15 ((.sl b18 0 1 10)) fun v20 h21 =>
 pNil a0 fun v22 =>
 pFld 2 v22 fun v23 =>
 pSt h21 1 v23 v20 fun h24 =>
 pNil a0 fun v25 =>
 pFld 3 v25 fun v26 =>
 pLd h24 none v26 fun v27 =>
 pFill [.int .i64 0] [(0, 1, .int .i64 n12)] fun c28 =>
 pNew h24 c28 fun b29 h30 =>
 pApp h30 1 8 v27 ((.sl b29 0 1 1)) fun v31 h32 =>
 pNil a0 fun v33 =>
 pFld 3 v33 fun v34 =>
 pSt h32 1 v34 v31 fun h35 =>
 some (.tup [], h35)))
 else (some (.tup [], h11))) (run T k) := by unfold run; rw [hT]; kernel_rfl
/- loop.example/dataflow/spec.randomPredicate: number 241 -/
def spec_randomPredicate.ir : AF := ⟨[(0, .any), (1, (.int .i64))], 14, [.cell 4 (some 3)],
 (.seq none
 (.reg none [⟨0, (some 4), .new [.int .i64 0, .int .i64 0, .int .i64 0], .any, none, []⟩])
 (.seq none
 (.reg none [⟨0, (some 5), .move (.t 0), .any, none, []⟩,
    ⟨1, (some 6), .move (.t 1), .any, none, []⟩,
    ⟨2, (some 7), .call 37 [(.t 5), (.t 6)], (.int .i64), none, []⟩,
    ⟨3, (some 8), .move (.t 0), .any, none, []⟩,
    ⟨4, (some 9), .call 37 [(.t 8), (.c (.int .i64 (4)))], (.int .i64), none, []⟩,
    ⟨5, (some 10), .bin .add (.c (.int .i64 (1))) (.t 9), .any, none, []⟩,
    ⟨6, (some 11), .move (.t 0), .any, none, []⟩,
    ⟨7, (some 12), .call 37 [(.t 11), (.c (.int .i64 (4)))], (.int .i64), none, []⟩,
    ⟨8, (some 13), .build [.int .i64 0, .int .i64 0, .int .i64 0] [(0, 1, (.t 7)), (1, 1, (.t 10)), (2, 1, (.t 12))], .any, none, []⟩,
    ⟨9, none, .store 3 (.t 4) (.t 13), .any, none, []⟩])
 (.ret)))⟩
theorem spec_randomPredicate_run (T : Nat → Option AF) (hT : T 241 = some spec_randomPredicate.ir) (k : Nat) (a0 : AV) (a1 : Int) (h : AH) : run T (k + 1) 241 [a0, .int .i64 a1] h =
 (fun (call : Nat → List AV → AH → O) => pNew h [.int .i64 0, .int .i64 0, .int .i64 0] fun b1 h2 =>
 pCallI call .i64 37 [a0, .int .i64 a1] h2 fun n4 h3 =>
 pCallI call .i64 37 [a0, .int .i64 (4)] h3 fun n6 h5 =>
 pCallI call .i64 37 [a0, .int .i64 (4)] h5 fun n8 h7 =>
 pFill [.int .i64 0, .int .i64 0, .int .i64 0] [(0, 1, .int .i64 n4), (1, 1, .int .i64 (IntKind.i64.wrap ((1) + n6))), (2, 1, .int .i64 n8)] fun c9 =>
 pSt h7 3 ((.ptr b1 0)) ((.agg c9)) fun h10 =>
 (aLd h10 (some 3) ((.ptr b1 0))).bind fun v11 => some (v11, h10)) (run T k) := by unfold run; rw [hT]; kernel_rfl
/-- What a planner holds. -/
structure PS where
  wx : AV
  px : AV
  dx : AV
  u : Int
  j : Int
  g : Int
  rows : List (List AV)
  wide : List Int
  ws : List Int
  Bp : List Nat
  Bw : List Nat
  mw : Mem
def PS.F (S : PS) (pb rb : Nat) : List Nat := pb :: rb :: (S.Bp ++ S.Bw)
def PS.cells (S : PS) (rb : Nat) : List AV := [.ptr rb 0, S.wx, S.px, S.dx, .int .i64 S.u, .int .i64 S.j, .int .i64 S.g]
structure Pl (m : Mem) (h : AH) (pb rb : Nat) (p : Int) (S : PS) : Prop where
  ok : Ok h
  sub : Sub m h
  off : ∀ f, f ∈ S.F pb rb → m f = none
  ne : pb ≠ rb
  nep : ∀ b, b ∈ S.Bp → b ≠ pb ∧ b ≠ rb
  new : ∀ b, b ∈ S.Bw → b ≠ pb ∧ b ≠ rb ∧ b ∉ S.Bp
  blk : h.blk pb = some (S.cells rb)
  rd : Rd h rb p
  subw : Sub S.mw h
  offw : ∀ f, f ∈ S.F pb rb → S.mw f = none
  ws : Ints S.mw S.wx S.ws
  wsl : S.ws.length ≤ 1000
  rows : Own h 10 S.px S.rows S.Bp
  node : ∀ r, r ∈ S.rows → Node m r
  wide : Own h 1 S.dx (S.wide.map fun n => [.int .i64 n]) S.Bw
  len : S.wide.length = S.rows.length
  small : S.rows.length ≤ 1000
theorem Pl.keep {m : Mem} {h h' : AH} {pb rb : Nat} {p : Int} {S : PS} {G : List Nat} (P : Pl m h pb rb p S) (ok : Ok h') (c : Ch G h h') (hG : ∀ f, f ∈ G → f ∉ S.F pb rb ∧ m f = none ∧ S.mw f = none) : Pl m h' pb rb p S where
  ok := ok
  sub := P.sub.keep P.ok c fun f hf => (hG f hf).2.1
  off := P.off
  subw := P.subw.keep P.ok c fun f hf => (hG f hf).2.2
  offw := P.offw
  ne := P.ne
  nep := P.nep
  new := P.new
  blk := c.keep P.ok P.blk fun hf => (hG _ hf).1 (by simp [PS.F])
  rd := P.rd.keep P.ok c fun hf => (hG _ hf).1 (by simp [PS.F])
  ws := P.ws
  wsl := P.wsl
  rows := P.rows.keep P.ok c fun b hb hf => (hG _ hf).1 (by simp [PS.F, hb])
  node := P.node
  wide := P.wide.keep P.ok c fun b hb hf => (hG _ hf).1 (by simp [PS.F, hb])
  len := P.len
  small := P.small
theorem Pl.pick {T : Nat → Option AF} (H37 : T 37 = some spec_reader_pick.ir) {k : Nat} (hk : 1 ≤ k) {m : Mem} {h : AH} {pb rb : Nat} {p q : Int} {S : PS} (P : Pl m h pb rb p S) (hp : 0 ≤ p ∧ p ≤ 100000000) :
    WI (run T k 37 [.ptr rb 0, .int .i64 q] h) fun n h' => Pl m h' pb rb (p + 1) S ∧ Ch [rb] h h' ∧ h'.next = h.next ∧ 0 ≤ n ∧ (n < q ∨ n = 0) := by
  obtain ⟨v, h', e, n, e1, q1, q2, q3, q4, q5, q6⟩ := pick_ok H37 hk P.rd (by omega) P.ok (q := q)
  refine ⟨v, h', e, n, e1, ?_, q2, q4, q5, q6⟩
  have hrb : m rb = none := P.off rb (by simp [PS.F])
  exact {
    ok := q3
    sub := P.sub.keep P.ok q2 fun f hf => by simp at hf; rw [hf]; exact hrb
    off := P.off
    subw := P.subw.keep P.ok q2 fun f hf => by simp at hf; rw [hf]; exact P.offw rb (by simp [PS.F])
    offw := P.offw
    ne := P.ne
    nep := P.nep
    new := P.new
    blk := q2.keep P.ok P.blk (by simp; exact P.ne)
    rd := q1
    ws := P.ws
    wsl := P.wsl
    rows := P.rows.keep P.ok q2 fun b hb hf => (P.nep b hb).2 (by simpa using hf)
    node := P.node
    wide := P.wide.keep P.ok q2 fun b hb hf => (P.new b hb).2.1 (by simpa using hf)
    len := P.len
    small := P.small }
theorem aLd_at {h : AH} {b o : Nat} {cs : List AV} {c : AV} (hb : h.blk b = some cs) (hc : cs[o]? = some c) : aLd h none (.ptr b o) = some c := by
  unfold aLd aCells; simp only [hb, Option.map_some, Option.bind_some, take1, List.head?_drop, hc]
/-- The counters of the planner change. -/
theorem Pl.set {m : Mem} {h : AH} {pb rb : Nat} {p : Int} {S S' : PS} (P : Pl m h pb rb p S) (e1 : S'.wx = S.wx) (e2 : S'.ws = S.ws) (e3 : S'.rows = S.rows) (e4 : S'.wide = S.wide) (e5 : S'.Bp = S.Bp) (e6 : S'.Bw = S.Bw) (e7 : S'.px = S.px) (e8 : S'.dx = S.dx) (e9 : S'.mw = S.mw) : Pl m (h.set pb (S'.cells rb)) pb rb p S' := by
  have c : Ch [pb] h (h.set pb (S'.cells rb)) := Ch.set
  have hpb : m pb = none := P.off pb (by simp [PS.F])
  exact {
    ok := P.ok.set P.blk
    sub := P.sub.keep P.ok c fun f hf => by simp at hf; rw [hf]; exact hpb
    off := by unfold PS.F; rw [e5, e6]; exact P.off
    subw := by rw [e9]; exact P.subw.keep P.ok c fun f hf => by simp at hf; rw [hf]; exact P.offw pb (by simp [PS.F])
    offw := by unfold PS.F; rw [e5, e6, e9]; exact P.offw
    ne := P.ne
    nep := by rw [e5]; exact P.nep
    new := by rw [e5, e6]; exact P.new
    blk := AH.set_same ..
    rd := P.rd.keep P.ok c (by simp; exact fun h => P.ne h.symm)
    ws := by rw [e1, e2, e9]; exact P.ws
    wsl := by rw [e2]; exact P.wsl
    rows := by rw [e3, e5, e7]; exact P.rows.keep P.ok c fun b hb hf => (P.nep b hb).1 (by simpa using hf)
    node := by rw [e3]; exact P.node
    wide := by rw [e4, e6, e8]; exact P.wide.keep P.ok c fun b hb hf => (P.new b hb).1 (by simpa using hf)
    len := by rw [e3, e4]; exact P.len
    small := by rw [e3]; exact P.small }
/-- What a step leaves of a planner: at most c nodes more. -/
structure Next (c : Nat) (m : Mem) (h : AH) (m' : Mem) (h' : AH) (pb rb : Nat) (p' : Int) (S S' : PS) : Prop where
  pl : Pl m' h' pb rb p' S'
  ch : Ch (S.F pb rb) h h'
  le : ∀ b d, m b = some d → m' b = some d
  more : S.rows.length ≤ S'.rows.length
  less : S'.rows.length ≤ S.rows.length + c
  ws : S'.ws = S.ws
  wx : S'.wx = S.wx
  mw : S'.mw = S.mw
  old : ∀ b, b < h.next → m' b = m b
  fresh : ∀ b, b ∈ S'.Bp ++ S'.Bw → b ∈ S.Bp ++ S.Bw ∨ h.next ≤ b
theorem Next.refl {m : Mem} {h : AH} {pb rb : Nat} {p : Int} {S : PS} (P : Pl m h pb rb p S) : Next 0 m h m h pb rb p S S :=
  ⟨P, Ch.refl _ _, fun _ _ h => h, Nat.le_refl _, Nat.le_refl _, rfl, rfl, rfl, fun _ _ => rfl, fun _ h => .inl h⟩
theorem Next.trans {c c' : Nat} {m m1 m2 : Mem} {h h1 h2 : AH} {pb rb : Nat} {p1 p2 : Int} {S S1 S2 : PS} (a : Next c m h m1 h1 pb rb p1 S S1) (b : Next c' m1 h1 m2 h2 pb rb p2 S1 S2) : Next (c + c') m h m2 h2 pb rb p2 S S2 where
  pl := b.pl
  ch := a.ch.trans b.ch fun x hx => by
    simp only [PS.F, List.mem_cons] at hx ⊢
    rcases hx with rfl | rfl | hx
    · exact .inl (.inl rfl)
    · exact .inl (.inr (.inl rfl))
    · exact (a.fresh x hx).imp (fun h => .inr (.inr h)) id
  le := fun x d hx => b.le x d (a.le x d hx)
  more := Nat.le_trans a.more b.more
  less := by have := a.less; have := b.less; omega
  ws := b.ws.trans a.ws
  wx := b.wx.trans a.wx
  mw := b.mw.trans a.mw
  old := fun x hx => (b.old x (Nat.lt_of_lt_of_le hx a.ch.next)).trans (a.old x hx)
  fresh := fun x hx => (b.fresh x hx).elim (a.fresh x) fun h => .inr (Nat.le_trans a.ch.next h)
theorem Next.keep {c : Nat} {m m1 : Mem} {h h1 h2 : AH} {pb rb : Nat} {p1 p2 : Int} {S S1 : PS} {G : List Nat} (a : Next c m h m1 h1 pb rb p1 S S1) (P : Pl m1 h2 pb rb p2 S1) (k : Ch G h1 h2) (hG : ∀ x, x ∈ G → x = pb ∨ x = rb ∨ h.next ≤ x) : Next c m h m1 h2 pb rb p2 S S1 :=
  ⟨P, a.ch.trans k fun x hx => by rcases hG x hx with rfl | rfl | h
                                  · left; simp [PS.F]
                                  · left; simp [PS.F]
                                  · right; exact h, a.le, a.more, a.less, a.ws, a.wx, a.mw, a.old, a.fresh⟩
theorem planner_add_ok {T : Nat → Option AF} (H : T 224 = some spec_planner_add.ir) (H240 : T 240 = some spec_nodeWidth.ir) (H255 : T 255 = some spec_validPredicate.ir) (H256 : T 256 = some spec_validColumns.ir) (H257 : T 257 = some spec_reducible.ir) (H49 : T 49 = some spec_inRange.ir) {k : Nat} (hk : 1000010 ≤ k) {m : Mem} {h : AH} {pb rb : Nat} {p : Int} {S : PS} (P : Pl m h pb rb p S) (hs : S.rows.length < 1000) {cs : List AV} (hn : Node m cs) :
    W (run T k 224 [.ptr pb 0, .agg cs] h) fun v h' => ∃ S', Next 1 m h m h' pb rb p S S' ∧ v = .tup [] ∧ (∀ a r, cs = .int .i64 1 :: .int .i64 a :: r → 0 ≤ a → a < S.ws.length → (∀ x, x ∈ S.ws → 1 ≤ x) → S'.rows.length = S.rows.length + 1) := by
  obtain ⟨k, rfl⟩ : ∃ j, k = j + 1 := ⟨k - 1, by omega⟩
  rw [spec_planner_add_run T H]
  simp only [cells_agg, new_eq]
  have hcs : cs.length = 10 := by obtain ⟨_, _, _, _, _, _, _, _, _, _, _, rfl, _⟩ := hn; rfl
  have hpb : pb < h.next := P.ok _ _ P.blk
  have P1 := P.keep (P.ok.new (cs := cs)) Ch.new (by simp)
  have c1 : Ch (S.F pb rb) h (h.new cs) := Ch.new.more (by simp)
  have hb := AH.new_same h cs
  have nx : (h.new cs).next = h.next + 1 := rfl
  generalize h.new cs = h1 at *
  generalize hb2 : h.next = b2 at *
  refine W.ldn (cs := cs) ⟨_, [], hb, by simp⟩ hcs.symm ?_
  simp only [nil_at, fld_at, Nat.zero_add, ld_at P1.blk (o := 3) rfl, ld_at P1.blk (o := 1) rfl]
  have hsub := P1.sub
  refine W.callI (nodeWidth_ok H240 H255 H256 H257 H49 (by omega) (hn.mono hsub) (l1 := S.wide) (P1.wide.sl) (by have := P1.len; omega) (l2 := S.ws) (P1.ws.mono P1.subw) (by have := P1.wsl; omega) P1.ok) fun n h2 ⟨q1, q2, q3⟩ => ?_
  have P2 := P1.keep q2 q1 (by simp)
  have c2 := c1.trans q1 (by simp)
  have hb' := q1.keep P1.ok hb (by simp)
  refine W.bif_ (fun c => ?_) fun c => W.ret ⟨S, ⟨P2, c2, fun _ _ h => h, Nat.le_refl _, Nat.le_succ _, rfl, rfl, rfl, fun _ _ => rfl, fun b hb => .inl hb⟩, rfl, fun a r e h0 h1' hw => ?_⟩
  · simp only [nil_at, fld_at, Nat.zero_add, ld_at P2.blk (o := 2) rfl]
    refine W.ldn (cs := cs) ⟨_, [], hb', by simp⟩ hcs.symm ?_
    rw [fill_all (n := 10) rfl hcs]
    have P3 := P2.keep (P2.ok.new (cs := cs)) Ch.new (by simp)
    have c3 := c2.trans (Ch.new (cs := cs)) (by simp)
    refine W.need_ (aLd_at P3.blk rfl) ?_
    refine W.app P3.rows (Sl.blk (AH.new_same ..) hcs) (room_ok (by simp; omega) (by omega)) P3.ok fun v h4 B' a1 a2 a3 a4 => ?_
    have c4 := c3.trans a2 (fun x hx => .inl (by simp [PS.F, hx]))
    have nx2 := c2.next
    have nx3 := c3.next
    generalize hh3 : h2.new cs = h3 at *
    have blk4 := a2.keep P3.ok P3.blk (fun hf => (P.nep _ hf).1 rfl)
    have wide4 := P3.wide.keep P3.ok a2 fun b hb hf => (P.new b hb).2.2 hf
    have rd4 := P3.rd.keep P3.ok a2 (fun hf => (P.nep _ hf).2 rfl)
    have sub4 := P3.sub.keep P3.ok a2 fun f hf => P.off f (by simp [PS.F, hf])
    have subw4 := P3.subw.keep P3.ok a2 fun f hf => P.offw f (by simp [PS.F, hf])
    have nv : ∃ b, v = .sl b 0 (S.rows.length + 1) 10 := by
      rcases a1.2 with ⟨_, h, _⟩ | ⟨b, _, h, _⟩
      · simp at h
      · exact ⟨b, by simpa using h⟩
    obtain ⟨vb, rfl⟩ := nv
    rw [st_at blk4 (v := .sl vb 0 (S.rows.length + 1) 10) rfl (by simp [PS.cells])]
    have nB : ∀ b, b ∈ B' → b ≠ pb ∧ b ≠ rb ∧ b ∉ S.Bw ∧ b = h3.next := by
      intro b hb
      have e := a4 b hb
      have hrb : rb < h3.next := by obtain ⟨_, _, _, e⟩ := P3.rd; exact P3.ok _ _ e
      have hpb : pb < h3.next := P3.ok _ _ P3.blk
      refine ⟨by omega, by omega, fun hw => ?_, e⟩
      have := P3.wide.lt P3.ok b hw; omega
    have ok5 : Ok (h4.set pb ((S.cells rb).set 2 (.sl vb 0 (S.rows.length + 1) 10))) := a3.set blk4
    have c45 : Ch [pb] h4 (h4.set pb ((S.cells rb).set 2 (.sl vb 0 (S.rows.length + 1) 10))) := Ch.set
    have blk5 : (h4.set pb ((S.cells rb).set 2 (.sl vb 0 (S.rows.length + 1) 10))).blk pb = some ((S.cells rb).set 2 (.sl vb 0 (S.rows.length + 1) 10)) := AH.set_same ..
    have rows5 := a1.keep a3 c45 fun b hb hf => (nB b hb).1 (by simpa using hf)
    have wide5 := wide4.keep a3 c45 fun b hb hf => (P.new b hb).1 (by simpa using hf)
    have rd5 := rd4.keep a3 c45 (by simp; exact fun h => P.ne h.symm)
    have hpb0 : m pb = none := P.off pb (by simp [PS.F])
    have sub5 := sub4.keep a3 c45 fun f hf => by simp at hf; rw [hf]; exact hpb0
    have hpb0w : S.mw pb = none := P.offw pb (by simp [PS.F])
    have subw5 := subw4.keep a3 c45 fun f hf => by simp at hf; rw [hf]; exact hpb0w
    have c5 := c4.trans c45 (fun x hx => .inl (by simp at hx; simp [PS.F, hx]))
    generalize hh5 : h4.set pb ((S.cells rb).set 2 (.sl vb 0 (S.rows.length + 1) 10)) = h5 at *
    simp only [nil_at, fld_at, Nat.zero_add, ld_at blk5 (o := 3) rfl, fill_one, new_eq]
    have k6 : Ch [] h5 (h5.new [.int .i64 n]) := Ch.new
    have ok6 := ok5.new (cs := [.int .i64 n])
    have hb6 := AH.new_same h5 [.int .i64 n]
    have blk6 := k6.keep ok5 blk5 (by simp)
    have rows6 := rows5.keep ok5 k6 (by simp)
    have wide6 := wide5.keep ok5 k6 (by simp)
    have rd6 := rd5.keep ok5 k6 (by simp)
    have sub6 := sub5.keep ok5 k6 (by simp)
    have subw6 := subw5.keep ok5 k6 (by simp)
    have c6 := c5.trans k6 (by simp)
    generalize h5.new [.int .i64 n] = h6 at *
    refine W.app wide6 (Sl.blk hb6 rfl) (room_ok (by have := P.len; simp; omega) (by omega)) ok6 fun v h7 B7 b1 b2 b3 b4 => ?_
    have nv : ∃ b, v = .sl b 0 (S.wide.length + 1) 1 := by
      rcases b1.2 with ⟨_, h, _⟩ | ⟨b, _, h, _⟩
      · simp at h
      · exact ⟨b, by simpa using h⟩
    obtain ⟨vb7, rfl⟩ := nv
    have nP : pb ∉ S.Bw := fun hf => (P.new _ hf).1 rfl
    have nR : rb ∉ S.Bw := fun hf => (P.new _ hf).2.1 rfl
    have blk7 := b2.keep ok6 blk6 nP
    have rows7 := rows6.keep ok6 b2 fun b hb => (nB b hb).2.2.1
    have rd7 := rd6.keep ok6 b2 nR
    have sub7 := sub6.keep ok6 b2 fun f hf => P.off f (by simp [PS.F, hf])
    have subw7 := subw6.keep ok6 b2 fun f hf => P.offw f (by simp [PS.F, hf])
    have c7 := c6.trans b2 (fun x hx => .inl (by simp [PS.F, hx]))
    have nB7 : ∀ b, b ∈ B7 → b ≠ pb ∧ b ≠ rb ∧ b ∉ B' ∧ b = h6.next := by
      intro b hb
      have e := b4 b hb
      have hrb : rb < h6.next := by obtain ⟨_, _, _, e⟩ := rd6; exact ok6 _ _ e
      have hpb : pb < h6.next := ok6 _ _ blk6
      refine ⟨by omega, by omega, fun hw => ?_, e⟩
      have := rows6.lt ok6 b hw; omega
    rw [st_at blk7 (v := .sl vb7 0 (S.wide.length + 1) 1) rfl (by simp [PS.cells])]
    have k8 : Ch [pb] h7 (h7.set pb (((S.cells rb).set 2 (.sl vb 0 (S.rows.length + 1) 10)).set 3 (.sl vb7 0 (S.wide.length + 1) 1))) := Ch.set
    have nxt6 := c6.next
    have nxt3 := c3.next
    refine W.ret ⟨{ S with px := .sl vb 0 (S.rows.length + 1) 10, dx := .sl vb7 0 (S.wide.length + 1) 1, rows := S.rows ++ [cs], wide := S.wide ++ [n], Bp := B', Bw := B7 }, ⟨?_, c7.trans k8 (fun x hx => .inl (by simp at hx; simp [PS.F, hx])), fun _ _ h => h, by simp, by simp, rfl, rfl, rfl, fun _ _ => rfl, fun b hb => ?_⟩, rfl, fun _ _ _ _ _ _ => by simp⟩
    · exact {
        ok := b3.set blk7
        sub := sub7.keep b3 k8 fun f hf => by simp at hf; rw [hf]; exact hpb0
        off := fun f hf => by
          simp only [PS.F, List.mem_cons, List.mem_append] at hf
          rcases hf with rfl | rfl | hf | hf
          · exact hpb0
          · exact P.off _ (by simp [PS.F])
          · exact P.sub.fresh P.ok (by have := (nB f hf).2.2.2; omega)
          · exact P.sub.fresh P.ok (by have := (nB7 f hf).2.2.2; omega)
        subw := subw7.keep b3 k8 fun f hf => by simp at hf; rw [hf]; exact hpb0w
        offw := fun f hf => by
          simp only [PS.F, List.mem_cons, List.mem_append] at hf
          rcases hf with rfl | rfl | hf | hf
          · exact hpb0w
          · exact P.offw _ (by simp [PS.F])
          · exact P.subw.fresh P.ok (by have := (nB f hf).2.2.2; omega)
          · exact P.subw.fresh P.ok (by have := (nB7 f hf).2.2.2; omega)
        ne := P.ne
        nep := fun b hb => ⟨(nB b hb).1, (nB b hb).2.1⟩
        new := fun b hb => ⟨(nB7 b hb).1, (nB7 b hb).2.1, (nB7 b hb).2.2.1⟩
        blk := AH.set_same ..
        rd := rd7.keep b3 k8 (by simp; exact fun h => P.ne h.symm)
        ws := P.ws
        wsl := P.wsl
        rows := rows7.keep b3 k8 fun b hb hf => (nB b hb).1 (by simpa using hf)
        node := fun r hr => by
          rcases List.mem_append.1 hr with hr | hr
          · exact P.node r hr
          · simp at hr; rw [hr]; exact hn
        wide := by
          have := b1.keep b3 k8 fun b hb hf => (nB7 b hb).1 (by simpa using hf)
          simpa using this
        len := by have := P.len; simp; exact this
        small := by simp; omega }
    · right
      rcases List.mem_append.1 hb with hb | hb
      · have := (nB b hb).2.2.2; omega
      · have := (nB7 b hb).2.2.2; omega
  · have := q3 a r e h0 h1'
    have := hw n this
    have : n ≤ 0 := by simpa using c
    omega
theorem randomPredicate_ok {T : Nat → Option AF} (H : T 241 = some spec_randomPredicate.ir) (H37 : T 37 = some spec_reader_pick.ir) {k : Nat} (hk : 2 ≤ k) {m : Mem} {h : AH} {pb rb : Nat} {p q : Int} {S : PS} (P : Pl m h pb rb p S) (hp : 0 ≤ p ∧ p ≤ 10000000) :
    W (run T k 241 [.ptr rb 0, .int .i64 q] h) fun v h' => ∃ a b c, v = .agg [.int .i64 a, .int .i64 b, .int .i64 c] ∧ Pl m h' pb rb (p + 3) S ∧ Ch [rb] h h' := by
  obtain ⟨k, rfl⟩ : ∃ j, k = j + 1 := ⟨k - 1, by omega⟩
  rw [spec_randomPredicate_run T H]
  simp only [new_eq]
  have P1 := P.keep (P.ok.new (cs := [.int .i64 0, .int .i64 0, .int .i64 0])) Ch.new (by simp)
  have hb := AH.new_same h [.int .i64 0, .int .i64 0, .int .i64 0]
  have c1 : Ch [rb] h (h.new [.int .i64 0, .int .i64 0, .int .i64 0]) := Ch.new.more (by simp)
  have hF : ∀ f, f ∈ S.F pb rb → f < h.next := fun f hf => by
    simp only [PS.F, List.mem_cons, List.mem_append] at hf
    rcases hf with rfl | rfl | hf | hf
    · exact P.ok _ _ P.blk
    · obtain ⟨_, _, _, e⟩ := P.rd; exact P.ok _ _ e
    · exact P.rows.lt P.ok f hf
    · exact P.wide.lt P.ok f hf
  have hrb : rb < h.next := hF rb (by simp [PS.F])
  have hmb := P.sub.fresh P.ok (Nat.le_refl _)
  have hmbw := P.subw.fresh P.ok (Nat.le_refl _)
  generalize hb2 : h.next = b2 at *
  generalize h.new [.int .i64 0, .int .i64 0, .int .i64 0] = h1 at *
  have nb : b2 ∉ ([rb] : List Nat) := by simp; omega
  refine W.callI (P1.pick H37 (by omega) (by omega)) fun n1 h2 ⟨P2, c2, _, _, _⟩ => ?_
  refine W.callI (P2.pick H37 (by omega) (by omega)) fun n2 h3 ⟨P3, c3, _, _, _⟩ => ?_
  refine W.callI (P3.pick H37 (by omega) (by omega)) fun n3 h4 ⟨P4, c4, _, _, _⟩ => ?_
  have hb' := c4.keep P3.ok (c3.keep P2.ok (c2.keep P1.ok hb nb) nb) nb
  unfold pFill
  have f : fillA [.int .i64 0, .int .i64 0, .int .i64 0] [(0, 1, .int .i64 n1), (1, 1, .int .i64 (IntKind.i64.wrap (1 + n2))), (2, 1, .int .i64 n3)] = some [.int .i64 n1, .int .i64 (IntKind.i64.wrap (1 + n2)), .int .i64 n3] := rfl
  rw [f, Option.bind_some]
  unfold pSt aSt
  simp only [hb', Option.bind_some, cellsOf]
  rw [if_pos (by simp), Option.bind_some]
  have c5 : Ch [b2] h4 (h4.set b2 (splice [.int .i64 0, .int .i64 0, .int .i64 0] 0 [.int .i64 n1, .int .i64 (IntKind.i64.wrap (1 + n2)), .int .i64 n3])) := Ch.set
  have ss : splice [.int .i64 0, .int .i64 0, .int .i64 0] 0 [.int .i64 n1, .int .i64 (IntKind.i64.wrap (1 + n2)), .int .i64 n3] = [.int .i64 n1, .int .i64 (IntKind.i64.wrap (1 + n2)), .int .i64 n3] := rfl
  rw [ss] at *
  have pt : Pt (h4.set b2 [.int .i64 n1, .int .i64 (IntKind.i64.wrap (1 + n2)), .int .i64 n3]).blk (.ptr b2 0) [.int .i64 n1, .int .i64 (IntKind.i64.wrap (1 + n2)), .int .i64 n3] := ⟨_, [], AH.set_same .., rfl⟩
  rw [pt.ldn (n := 3) rfl, Option.bind_some]
  refine W.ret ⟨_, _, _, rfl, ?_, ?_⟩
  · have := P4.keep (P4.ok.set hb') c5 fun f hf => by
      simp at hf; subst hf
      exact ⟨fun hf => by have := hF _ hf; omega, hmb, hmbw⟩
    have e : p + 1 + 1 + 1 = p + 3 := by omega
    rw [e] at this; exact this
  · exact (((c1.trans0 c2).trans0 c3).trans0 c4).trans c5 fun x hx => by simp at hx; right; omega
end Go.AM
