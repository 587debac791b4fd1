/- anyPlan, DrawIsLinear. -/
import Derived.Test.YtfcdnfbhoppefaaMS7
namespace Go.AM
set_option linter.unusedVariables false
set_option linter.unusedSimpArgs false
set_option maxRecDepth 100000
/-- A drawn plan with its widths. -/
structure Dr (h0 : AH) (rb : Nat) (p : Int) (px wx : AV) (h : AH) (m : Mem) (rows : List (List AV)) (B : List Nat) (p' : Int) (ws : List Int) (Bx : List Nat) : Prop where
  own : Own h 10 px rows B
  node : ∀ r, r ∈ rows → NodeB 2000 m r
  ne : rows ≠ []
  small : rows.length ≤ 1000
  rd : Rd h rb p'
  le : p ≤ p'
  le' : p' ≤ p + 10000
  sub : Sub m h
  ok : Ok h
  ch : Ch [rb] h0 h
  fresh : ∀ b, b ∈ B → h0.next ≤ b ∧ m b = none ∧ b ≠ rb
  mrb : m rb = none
  ow : Own h 1 wx (ws.map fun (n : Int) => [.int .i64 n]) Bx
  wl : ws.length ≤ 100
  freshx : ∀ b, b ∈ Bx → h0.next ≤ b ∧ m b = none ∧ b ∉ B ∧ b ≠ rb
section
variable {h0 h h' : AH} {rb : Nat} {p p' : Int} {px wx : AV} {m : Mem} {rows : List (List AV)} {B Bx : List Nat} {ws : List Int}
theorem Dr.keep (D : Dr h0 rb p px wx h m rows B p' ws Bx) {G : List Nat} (c : Ch G h h') (ok : Ok h') (hG : ∀ g, g ∈ G → h0.next ≤ g ∧ g ∉ B ∧ g ∉ Bx ∧ m g = none ∧ g ≠ rb) : Dr h0 rb p px wx h' m rows B p' ws Bx where
  own := D.own.keep D.ok c fun b hb hg => (hG b hg).2.1 hb
  node := D.node
  ne := D.ne
  small := D.small
  rd := D.rd.keep D.ok c fun hg => (hG _ hg).2.2.2.2 rfl
  le := D.le
  le' := D.le'
  sub := D.sub.keep D.ok c fun f hf => (hG f hf).2.2.2.1
  ok := ok
  ch := D.ch.trans c fun x hx => .inr (hG x hx).1
  fresh := D.fresh
  mrb := D.mrb
  ow := D.ow.keep D.ok c fun b hb hg => (hG b hg).2.2.1 hb
  wl := D.wl
  freshx := D.freshx
theorem Dr.read (D : Dr h0 rb p px wx h m rows B p' ws Bx) (c : Ch [rb] h h') (ok : Ok h') (r : Rd h' rb (p' + 1)) (hp : p' < p + 10000) : Dr h0 rb p px wx h' m rows B (p' + 1) ws Bx where
  own := D.own.keep D.ok c fun b hb hg => (D.fresh b hb).2.2 (by simpa using hg)
  node := D.node
  ne := D.ne
  small := D.small
  rd := r
  le := by have := D.le; omega
  le' := by omega
  sub := D.sub.keep D.ok c fun f hf => by simp at hf; rw [hf]; exact D.mrb
  ok := ok
  ch := D.ch.trans0 c
  fresh := D.fresh
  mrb := D.mrb
  ow := D.ow.keep D.ok c fun b hb hg => (D.freshx b hb).2.2.2 (by simpa using hg)
  wl := D.wl
  freshx := D.freshx
theorem Dr.pick {T : Nat → Option AF} (H : HasQ T) {k : Nat} (hk : 1 ≤ k) (D : Dr h0 rb p px wx h m rows B p' ws Bx) (hp : 0 ≤ p ∧ p ≤ 100000) (hp' : p' < p + 10000) {q : Int} {K : Int → AH → O} {Q : AV → AH → Prop}
    (a : ∀ n h2, Dr h0 rb p px wx h2 m rows B (p' + 1) ws Bx → 0 ≤ n → (n < q ∨ n = 0) → W (K n h2) Q) : W (pCallI (run T k) .i64 37 [.ptr rb 0, .int .i64 q] h K) Q :=
  W.callI (pick_ok H.f37 hk D.rd (by have := D.le; omega) D.ok) fun n h2 ⟨r, c, ok, _, e1, e2⟩ => a n h2 (D.read c ok r hp') e1 e2
theorem own_ints (h : AH) (l : List Int) : Own (h.new (l.map (.int .i64))) 1 (.sl h.next 0 l.length 1) (l.map fun (n : Int) => [.int .i64 n]) [h.next] := by
  refine ⟨by simp, .inr ⟨_, rfl, by simp, ?_⟩⟩
  rw [AH.new_same]
  congr 1
  induction l with
  | nil => rfl
  | cons a l ih => simp [List.flatten_cons, ih]
theorem Dr.new (D : Dr h0 rb p px wx h m rows B p' ws Bx) (cs : List AV) : Dr h0 rb p px wx (h.new cs) m rows B p' ws Bx := D.keep Ch.new D.ok.new (by simp)
theorem Dr.one {T : Nat → Option AF} (H : HasQ T) {k : Nat} (hk : 2 ≤ k) (D : Dr h0 rb p px wx h m rows B p' ws Bx) (hp : 0 ≤ p ∧ p ≤ 100000) (hp' : p' < p + 10000) {cs : List AV} {n : Nat} (l : List Int) (hc : cs = l.map (.int .i64)) (hn : n = l.length) (h0' : l ≠ []) {K : Int → AH → O} {Q : AV → AH → Prop}
    (a : ∀ n h2, Dr h0 rb p px wx h2 m rows B (p' + 1) ws Bx → Ch [rb] h h2 → W (K n h2) Q) : W (pNew h cs fun b h2 => pCallI (run T k) .i64 56 [.ptr rb 0, .sl b 0 n 1] h2 K) Q := by
  subst hc; subst hn
  rw [new_eq]
  have D2 := D.new (l.map (.int .i64))
  have hrb : rb < h.next := by obtain ⟨_, _, _, e⟩ := D.rd; exact D.ok _ _ e
  refine W.callI (one_ok H.f56 H.f37 hk D2.rd (by have := D.le; omega) D2.ok (own_ints h l).add (Sub.add (m := fun _ => none) (fun _ _ h => by cases h) _) (Mem.add_none rfl (by simp; omega)) h0') fun n h2 ⟨r, c, ok, _, _⟩ => a n h2 (D2.read c ok r hp') ((Ch.new.more (by simp)).trans0 c)
theorem Dr.setRow (D : Dr h0 rb p px wx h m rows B p' ws Bx) {i : Int} {j o : Nat} {r : List AV} {v : AV} (hi : i = (j : Int)) (hr : rows[j]? = some r) (ho : o < 10) (hv : cellsOf v = some [v]) (hn : NodeB 2000 m (r.set o v)) {K : AH → O} {Q : AV → AH → Prop}
    (a : ∀ h2 rows', Dr h0 rb p px wx h2 m rows' B p' ws Bx → W (K h2) Q) : W (pIdx 10 px i fun p => pFld o p fun q => pSt h 1 q v K) Q := by
  refine W.setRow D.own D.ok hi hr ho hv fun h2 o2 c ok2 => a h2 (rows.set j (r.set o v)) ?_
  exact {
    own := o2
    node := fun x hx => (List.mem_or_eq_of_mem_set hx).elim (D.node x) fun e => e ▸ hn
    ne := by have := D.ne; intro e; apply this; have := congrArg List.length e; simp at this; exact this
    small := by have := D.small; simpa using this
    rd := D.rd.keep D.ok c fun hb => (D.fresh _ hb).2.2 rfl
    le := D.le
    le' := D.le'
    sub := D.sub.keep D.ok c fun f hf => (D.fresh f hf).2.1
    ok := ok2
    ch := D.ch.trans c fun x hx => .inr (D.fresh x hx).1
    fresh := D.fresh
    mrb := D.mrb
    ow := D.ow.keep D.ok c fun b hb hg => (D.freshx b hb).2.2.1 hg
    wl := D.wl
    freshx := D.freshx }
theorem Dr.grow (D : Dr h0 rb p px wx h m rows B p' ws Bx) {G : List Nat} (hG : ∀ g, g ∈ G → g ∉ B ∧ g ∉ Bx ∧ g ≠ rb) : Dr h0 rb p px wx h (m.add h G) rows B p' ws Bx where
  own := D.own
  node := fun r hr => (D.node r hr).mono (Mem.le_add D.sub G)
  ne := D.ne
  small := D.small
  rd := D.rd
  le := D.le
  le' := D.le'
  sub := D.sub.add G
  ok := D.ok
  ch := D.ch
  fresh := fun b hb => ⟨(D.fresh b hb).1, Mem.add_none (D.fresh b hb).2.1 fun hg => (hG b hg).1 hb, (D.fresh b hb).2.2⟩
  mrb := Mem.add_none D.mrb fun hg => (hG _ hg).2.2 rfl
  ow := D.ow
  wl := D.wl
  freshx := fun b hb => ⟨(D.freshx b hb).1, Mem.add_none (D.freshx b hb).2.1 fun hg => (hG b hg).2.1 hb, (D.freshx b hb).2.2⟩
theorem PlanOut.dr {h1 : AH} {mw : Mem} {q : Int} (P : PlanOut h1 mw rb q px h m rows B p') (hq : p ≤ q) (hp' : p' ≤ p + 10000) (k : Ch [rb] h0 h1) (ow : Own h 1 wx (ws.map fun (n : Int) => [.int .i64 n]) Bx) (wl : ws.length ≤ 100) (fx : ∀ b, b ∈ Bx → h0.next ≤ b ∧ m b = none ∧ b ∉ B ∧ b ≠ rb) : Dr h0 rb p px wx h m rows B p' ws Bx where
  own := P.own
  node := fun r hr => by
    obtain ⟨a, b, c, d, x, p0, p1, p2, g, e, l, h1, h2, h3⟩ := P.node r hr
    exact ⟨a, b, c, d, x, p0, p1, p2, g, e, l, h1, h2, by omega⟩
  ne := P.ne
  small := P.small
  rd := P.rd
  le := by have := P.le; omega
  le' := hp'
  sub := P.sub
  ok := P.ok
  ch := k.trans0 P.ch
  fresh := fun b hb => ⟨Nat.le_trans k.next (P.fresh b hb).1, (P.fresh b hb).2.1, (P.fresh b hb).2.2.2⟩
  mrb := P.mrb
  ow := ow
  wl := wl
  freshx := fx
end
theorem linearPlan_dr {T : Nat → Option AF} (H : HasQ T) (H208 : T 208 = some spec_linearPlan.ir) {k : Nat} (hk : 1000040 ≤ k) {h : AH} {rb : Nat} {p : Int} (r : Rd h rb p) (ok : Ok h) (hp : 0 ≤ p ∧ p ≤ 10000) :
    W (run T k 208 [.ptr rb 0] h) fun v h' => ∃ px wx m rows B p' ws Bx, v = .tup [px, wx] ∧ Dr h rb p px wx h' m rows B p' ws Bx ∧ p' ≤ p + 1000 :=
  (linearPlan_ok H H208 hk r ok hp).mono fun v h' ⟨mw, m, rows, B, p', px, wx, e, out, hp', ws, Bx, ow, _, _, wl, fx⟩ => ⟨px, wx, m, rows, B, p', ws, Bx, e, out.dr (Int.le_refl _) out.le' (Ch.refl _ _) ow (by omega) fx, hp'⟩
theorem anyPlan_dr {T : Nat → Option AF} (H : HasQ T) (H209 : T 209 = some spec_anyPlan.ir) {k : Nat} (hk : 1000050 ≤ k) {h : AH} {rb : Nat} {p : Int} (r : Rd h rb p) (ok : Ok h) (hp : 0 ≤ p ∧ p ≤ 10000) :
    W (run T k 209 [.ptr rb 0] h) fun v h' => ∃ px wx m rows B p' ws Bx, v = .tup [px, wx] ∧ Dr h rb p px wx h' m rows B p' ws Bx ∧ p' ≤ p + 2000 := by
  obtain ⟨k, rfl⟩ : ∃ j, k = j + 1 := ⟨k - 1, by omega⟩
  rw [spec_anyPlan_run T H209]
  have hrb : rb < h.next := by obtain ⟨_, _, _, e⟩ := r; exact ok _ _ e
  refine W.call_ (randomWidths_ok H.f210 H.f37 (by omega) r (by omega) (by omega) ok) fun wx h1 ⟨ws, Bx, p1, r1, e1, e2, ok1, ow, c1, fx, w1, w0, wl⟩ => ?_
  have s0 : Sub (fun _ => none) h1 := fun _ _ h => by cases h
  have hmr : (Mem.add (fun _ => none) h1 Bx) rb = none := Mem.add_none rfl fun hb => by have := fx _ hb; omega
  refine W.call_ (randomPlan_ok H (by omega) r1 ok1 (s0.add Bx) hmr ow.add (by omega) w0 w1 (by omega)) fun px h2 ⟨m, rows, B, p2, out, e3⟩ => ?_
  have hx : ∀ b, b ∈ Bx → Mem.add (fun _ => none) h1 Bx b = h1.blk b := fun b hb => by unfold Mem.add; rw [if_pos hb]
  have hbx : ∀ b, b ∈ Bx → b < h1.next := ow.lt ok1
  have D : Dr h rb p px wx h2 m rows B p2 ws Bx := by
    refine out.dr e1 (by omega) c1 ?_ (by omega) fun b hb => ⟨fx b hb, out.sep b (hbx b hb), fun hB => ?_, fun e => ?_⟩
    · refine ⟨ow.1, ?_⟩
      rcases ow.2 with ⟨h1, h2, h3⟩ | ⟨c, hc, h2, e⟩
      · exact .inl ⟨h1, h2, h3⟩
      · refine .inr ⟨c, hc, h2, out.subw c _ ?_⟩
        rw [hx c (by rw [hc]; simp)]; exact e
    · have := (out.fresh b hB).1; have := hbx b hb; omega
    · have := fx b hb; omega
  have q0 := out.le
  have hnode := out.node
  clear out hx hbx
  refine W.len D.own.sl ?_
  refine D.pick H (by omega) (by omega) (by omega) fun a h3 D3 a0 a1 => ?_
  have hne := D.ne
  obtain ⟨j, rfl⟩ := Int.eq_ofNat_of_zero_le a0
  have hj : j < rows.length := by have := List.length_pos_iff.2 hne; omega
  obtain ⟨x0, x1, x2, x3, y, z0, z1, z2, g, e, l, hr, hy, hyl⟩ := hnode _ (List.getElem_mem hj)
  have hr' : rows[j]? = some rows[j] := by simp [hj]
  refine D3.pick H (by omega) (by omega) (by omega) fun q h4 D4 _ _ => ?_
  have fin : ∀ (h' : AH) (m : Mem) (rows : List (List AV)) (p' : Int) (wx : AV) (ws : List Int) (Bx : List Nat), Dr h rb p px wx h' m rows B p' ws Bx → p' ≤ p2 + 10 → W (spec_anyPlan.J1 (run T k) k wx px h') fun v h' => ∃ px wx m rows B p' ws Bx, v = .tup [px, wx] ∧ Dr h rb p px wx h' m rows B p' ws Bx ∧ p' ≤ p + 2000 := by
    intro h' m rows p' wx ws Bx D hp'
    rw [spec_anyPlan.J1_eq]
    exact W.ret ⟨px, wx, m, rows, B, p', ws, Bx, rfl, D, by omega⟩
  have nd : ∀ (a b c d : Int) (p0 p1 p2 g e : Int), NodeB 2000 m [.int .i64 a, .int .i64 b, .int .i64 c, .int .i64 d, y, .int .i64 p0, .int .i64 p1, .int .i64 p2, .int .i64 g, .int .i64 e] := Node.mk hy (by omega)
  refine W.bif_ (fun _ => ?_) fun _ => W.bif_ (fun _ => ?_) fun _ => W.bif_ (fun _ => ?_) fun _ => W.bif_ (fun _ => ?_) fun _ => W.bif_ (fun _ => ?_) fun _ => fin _ _ _ _ _ _ _ D4 (by omega)
  · refine W.fill rfl (D4.one H (by omega) (by omega) (by omega) [-1, (j : Int), 3] rfl rfl (by simp) fun n h5 D5 _ => ?_)
    exact D5.setRow rfl hr' (by omega) rfl (by rw [hr]; exact nd _ _ _ _ _ _ _ _ _) fun h6 rows' D6 => fin _ _ _ _ _ _ _ D6 (by omega)
  · refine W.fill rfl (D4.one H (by omega) (by omega) (by omega) [0, 9, 2, 6] rfl rfl (by simp) fun n h5 D5 _ => ?_)
    exact D5.setRow rfl hr' (by omega) rfl (by rw [hr]; exact nd _ _ _ _ _ _ _ _ _) fun h6 rows' D6 => fin _ _ _ _ _ _ _ D6 (by omega)
  · refine W.idx D4.own.sl hr' rfl fun pt => ?_
    refine W.fld pt ?_
    have pt4 := pt.fld (o := 4) (by rw [hr]; simp)
    rw [hr] at pt4
    refine W.ld pt4 ?_
    refine W.call_ (copyInts_ok H.f75 (by omega) (hy.mono D4.sub) (by omega) D4.ok) fun v h5 ⟨Bc, o5, c5, ok5, f5⟩ => ?_
    have D5 := D4.keep c5 ok5 (by simp)
    have l5 := o5.lt ok5
    have n4 := D4.ch.next
    have lB := D4.own.lt D4.ok
    have lX := D4.ow.lt D4.ok
    have hrb4 : rb < h4.next := by obtain ⟨_, _, _, e⟩ := D4.rd; exact D4.ok _ _ e
    have gB : ∀ b, h4.next ≤ b → h.next ≤ b ∧ b ∉ B ∧ b ∉ Bx ∧ m b = none ∧ b ≠ rb := fun b hb =>
      ⟨by omega, fun h => by have := lB b h; omega, fun h => by have := lX b h; omega, D4.sub.fresh D4.ok hb, by omega⟩
    refine W.fill rfl (D5.one H (by omega) (by omega) (by omega) [0, 5] rfl rfl (by simp) fun n h6 D6 c6 => ?_)
    refine W.fill (cs := [.int .i64 n]) rfl ?_
    rw [new_eq]
    have D7 := D6.new [.int .i64 n]
    have o7 := (o5.keep ok5 c6 (fun b hb hg => by simp at hg; have := f5 b hb; omega)).keep D6.ok (Ch.new (cs := [.int .i64 n])) (by simp)
    have n7 : h4.next ≤ (h6.new [.int .i64 n]).next := Nat.le_trans c5.next (Nat.le_trans c6.next (Nat.le_succ _))
    refine W.app o7 (Sl.blk (AH.new_same ..) rfl) (room_ok (by simp; omega) (by omega)) D7.ok fun v8 h8 B8 a1 a2 a3 a4 => ?_
    have D8 := (D7.keep a2 a3 fun g hg => gB g (f5 g hg)).grow (G := B8) fun g hg => by
      have := gB g (by rw [a4 g hg]; exact n7)
      exact ⟨this.2.1, this.2.2.1, this.2.2.2.2⟩
    have hv8 : cellsOf v8 = some [v8] := by
      rcases a1.2 with ⟨rfl, _⟩ | ⟨_, _, rfl, _⟩
      · rfl
      · rfl
    have a1' : Ints (m.add h8 B8) v8 (l ++ [n]) := by have := a1.add (m := m); unfold Ints; simpa using this
    exact D8.setRow rfl hr' (by omega) hv8 (by rw [hr]; exact Node.mk a1' (by simp; omega) _ _ _ _ _ _ _ _ _) fun h9 rows' D9 => fin _ _ _ _ _ _ _ D9 (by omega)
  · refine W.fill rfl (D4.one H (by omega) (by omega) (by omega) [0, 7, 1, 1] rfl rfl (by simp) fun n h5 D5 _ => ?_)
    refine W.fill (cs := [.int .i64 n]) rfl ?_
    rw [new_eq]
    have D6 := D5.new [.int .i64 n]
    refine W.app D6.ow (Sl.blk (AH.new_same ..) rfl) (room_ok (by simp; omega) (by omega)) D6.ok fun v h7 B' a1 a2 a3 a4 => ?_
    have lB := D6.own.lt D6.ok
    have n6 := D6.ch.next
    have hrb4 : rb < (h5.new [.int .i64 n]).next := by obtain ⟨_, _, _, e⟩ := D6.rd; exact D6.ok _ _ e
    refine fin _ m rows (p2 + 1 + 1 + 1) v (ws ++ [n]) B' ?_ (by omega)
    exact {
      own := D6.own.keep D6.ok a2 fun b hb hg => (D6.freshx b hg).2.2.1 hb
      node := D6.node
      ne := D6.ne
      small := D6.small
      rd := D6.rd.keep D6.ok a2 fun hg => (D6.freshx _ hg).2.2.2 rfl
      le := D6.le
      le' := D6.le'
      sub := D6.sub.keep D6.ok a2 fun f hf => (D6.freshx f hf).2.1
      ok := a3
      ch := D6.ch.trans a2 fun x hx => .inr (D6.freshx x hx).1
      fresh := D6.fresh
      mrb := D6.mrb
      ow := by simpa using a1
      wl := by simp; omega
      freshx := fun b hb => by
        have e := a4 b hb
        refine ⟨by omega, D6.sub.fresh D6.ok (by omega), fun hB => ?_, by omega⟩
        have := lB b hB; omega }
  · exact D4.setRow rfl hr' (by omega) rfl (by rw [hr]; exact nd _ _ _ _ _ _ _ _ _) fun h6 rows' D6 => fin _ _ _ _ _ _ _ D6 (by omega)
end Go.AM
