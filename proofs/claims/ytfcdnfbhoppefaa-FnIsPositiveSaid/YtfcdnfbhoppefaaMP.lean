/- Reasoning about the machine's runs: a run ends with a value and a memory of which something holds. -/
import Derived.Test.YtfcdnfbhoppefaaMA
import Derived.IntWalk
namespace Go.AM
set_option linter.unusedVariables false
set_option linter.unusedSimpArgs false
def W (o : O) (Q : AV → AH → Prop) : Prop := ∃ v h', o = some (v, h') ∧ Q v h'
/-- Ends with a number. -/
def WI (o : O) (P : Int → AH → Prop) : Prop := W o fun v h => ∃ n, v = .int .i64 n ∧ P n h
def WB (o : O) (P : Bool → AH → Prop) : Prop := W o fun v h => ∃ n, v = .bool n ∧ P n h
namespace W
variable {Q R : AV → AH → Prop} {call : Nat → List AV → AH → O} {h : AH}
theorem ret {v : AV} {h : AH} (q : Q v h) : W (some (v, h)) Q := ⟨v, h, rfl, q⟩
theorem mono {o : O} (a : W o R) (b : ∀ v h', R v h' → Q v h') : W o Q := by obtain ⟨v, h', e, q⟩ := a; exact ⟨v, h', e, b _ _ q⟩
theorem bindO {o : O} {K : AV × AH → O} (a : W o R) (b : ∀ v h', R v h' → W (K (v, h')) Q) : W (o.bind K) Q := by
  obtain ⟨v, h', e, q⟩ := a; rw [e]; exact b _ _ q
theorem call_ {f : Nat} {xs : List AV} {K : AV → AH → O} (a : W (call f xs h) R) (b : ∀ v h', R v h' → W (K v h') Q) : W (pCall call f xs h K) Q := bindO a b
theorem callI {f : Nat} {xs : List AV} {K : Int → AH → O} {P : Int → AH → Prop} (a : WI (call f xs h) P) (b : ∀ n h', P n h' → W (K n h') Q) : W (pCallI call .i64 f xs h K) Q :=
  bindO a fun v h' ⟨n, e, p⟩ => by subst e; exact b n h' p
theorem callB {f : Nat} {xs : List AV} {K : Bool → AH → O} {P : Bool → AH → Prop} (a : WB (call f xs h) P) (b : ∀ n h', P n h' → W (K n h') Q) : W (pCallB call f xs h K) Q :=
  bindO a fun v h' ⟨n, e, p⟩ => by subst e; exact b n h' p
theorem bif_ {c : Bool} {A B : O} (a : c = true → W A Q) (b : c = false → W B Q) : W (bif c then A else B) Q := by
  cases c with
  | true => exact a rfl
  | false => exact b rfl
theorem ite_ {c : Prop} [Decidable c] {A B : O} (a : c → W A Q) (b : ¬ c → W B Q) : W (if c then A else B) Q := by
  by_cases hc : c
  · rw [if_pos hc]; exact a hc
  · rw [if_neg hc]; exact b hc
theorem need_ {p : Prop} {x : O} (hp : p) (a : W x Q) : W (need p x) Q := by unfold need; rw [if_pos hp]; exact a
end W
/-! ### Memory -/
abbrev Mem := Nat → Option (List AV)
def fldp (q : AV) (o : Nat) : AV := match q with
  | .ptr b o' => .ptr b (o' + o)
  | .rop cs o' => .rop cs (o' + o)
  | _ => .junk
/-- q points to the cells cs. -/
def Pt (m : Mem) (q : AV) (cs : List AV) : Prop := match q with
  | .ptr b o => ∃ d r, m b = some d ∧ d.drop o = cs ++ r
  | .rop d o => ∃ r, d.drop o = cs ++ r
  | _ => False
theorem Pt.fld {m : Mem} {q : AV} {cs : List AV} {o : Nat} (h : Pt m q cs) (ho : o ≤ cs.length) : Pt m (fldp q o) (cs.drop o) := by
  cases q with
  | ptr b o' => obtain ⟨d, r, h1, h2⟩ := h; exact ⟨d, r, h1, by rw [← List.drop_drop, h2, List.drop_append_of_le_length ho]⟩
  | rop d o' => obtain ⟨r, h2⟩ := h; exact ⟨r, by rw [← List.drop_drop, h2, List.drop_append_of_le_length ho]⟩
  | _ => exact h.elim
theorem Pt.mono {m m' : Mem} {q : AV} {cs : List AV} (h : Pt m q cs) (hm : ∀ b d, m b = some d → m' b = some d) : Pt m' q cs := by
  cases q with
  | ptr b o' => obtain ⟨d, r, h1, h2⟩ := h; exact ⟨d, r, hm _ _ h1, h2⟩
  | rop d o' => exact h
  | _ => exact h.elim
theorem Pt.cells {h : AH} {q : AV} {cs : List AV} (p : Pt h.blk q cs) : ∃ r, aCells h q = some (cs ++ r) := by
  cases q with
  | ptr b o' => obtain ⟨d, r, h1, h2⟩ := p; exact ⟨r, by simp only [aCells, h1, Option.map_some, h2]⟩
  | rop d o' => obtain ⟨r, h2⟩ := p; exact ⟨r, by simp only [aCells, h2]⟩
  | _ => exact p.elim
theorem Pt.ld {h : AH} {q c : AV} {cs : List AV} (p : Pt h.blk q (c :: cs)) : aLd h none q = some c := by
  obtain ⟨r, e⟩ := p.cells; simp only [aLd, e, Option.bind_some, take1, List.cons_append, List.head?_cons]
theorem Pt.ldn {h : AH} {q : AV} {cs : List AV} {n : Nat} (p : Pt h.blk q cs) (hn : n = cs.length) : aLd h (some n) q = some (.agg cs) := by
  obtain ⟨r, e⟩ := p.cells; subst hn
  simp only [aLd, e, Option.bind_some, take1, List.length_append, List.take_left]
  rw [if_pos (by omega)]
theorem Pt.aFld {m : Mem} {q : AV} {cs : List AV} (p : Pt m q cs) (o : Nat) : aFld o q = some (fldp q o) := by
  cases q with
  | ptr b o' => rfl
  | rop d o' => rfl
  | _ => exact p.elim
/-- x is a slice of elements of s cells: these are rows. -/
def Sl (m : Mem) (s : Nat) (x : AV) (rows : List (List AV)) : Prop :=
  (∀ r, r ∈ rows → r.length = s) ∧ match x with
  | .nils => rows = []
  | .sl b off n s' => s' = s ∧ n = rows.length ∧ ∃ d e, m b = some d ∧ off ≤ d.length ∧ d.drop off = rows.flatten ++ e
  | .ro cs n => n = rows.length ∧ cs = rows.flatten
  | _ => False
theorem Sl.mono {m m' : Mem} {s : Nat} {x : AV} {rows : List (List AV)} (h : Sl m s x rows) (hm : ∀ b d, m b = some d → m' b = some d) : Sl m' s x rows := by
  refine ⟨h.1, ?_⟩
  have h2 := h.2
  cases x with
  | sl b off n s' => obtain ⟨e1, e2, d, e, h1, h3⟩ := h2; exact ⟨e1, e2, d, e, hm _ _ h1, h3⟩
  | _ => exact h2
theorem Sl.len {m : Mem} {s : Nat} {x : AV} {rows : List (List AV)} (h : Sl m s x rows) : slen x = some rows.length := by
  have h2 := h.2
  cases x with
  | nils => have e : rows = [] := h2; subst e; rfl
  | sl b off n s' => obtain ⟨e1, e2, _⟩ := h2; simp only [slen, e2]
  | ro cs n => obtain ⟨e2, _⟩ := h2; simp only [slen, e2]
  | _ => exact h2.elim
def ixp (s : Nat) (x : AV) (i : Nat) : AV := match x with
  | .sl b off _ _ => .ptr b (off + i * s)
  | .ro cs _ => .rop cs (i * s)
  | _ => .junk
theorem flatten_drop {s : Nat} : ∀ (rows : List (List AV)) (i : Nat), (∀ r, r ∈ rows → r.length = s) → ∀ r, rows[i]? = some r → ∃ e, rows.flatten.drop (i * s) = r ++ e ∧ i * s ≤ rows.flatten.length
  | [], i, _, r, h => by simp at h
  | a :: l, 0, _, r, h => by simp at h; subst h; exact ⟨l.flatten, by simp, by simp⟩
  | a :: l, i + 1, hs, r, h => by
    have ha := hs a (List.mem_cons_self ..)
    obtain ⟨e, h1, h2⟩ := flatten_drop l i (fun r hr => hs r (List.mem_cons_of_mem _ hr)) r (by simpa using h)
    refine ⟨e, ?_, by rw [List.flatten_cons, List.length_append, ha, Nat.add_mul]; omega⟩
    rw [List.flatten_cons, Nat.add_mul, Nat.one_mul, Nat.add_comm, ← ha, List.drop_length_add_append, ha, h1]
theorem Sl.idx {m : Mem} {s : Nat} {x : AV} {rows : List (List AV)} {i : Int} {j : Nat} {r : List AV} (h : Sl m s x rows) (hr : rows[j]? = some r) (hi : i = (j : Int)) : aIdx s x i = some (ixp s x j) ∧ Pt m (ixp s x j) r := by
  have h2 := h.2
  have hj : j < rows.length := (List.getElem?_eq_some_iff.1 hr).1
  obtain ⟨e, f1, f2⟩ := flatten_drop rows j h.1 r hr
  subst hi
  cases x with
  | nils => have e : rows = [] := h2; subst e; simp at hj
  | sl b off n s' =>
    obtain ⟨e1, e2, d, e', h1, _, h3⟩ := h2
    refine ⟨by simp only [aIdx]; rw [if_pos ⟨by omega, by omega, e1⟩]; simp [ixp], d, e ++ e', h1, ?_⟩
    rw [← List.drop_drop, h3, List.drop_append_of_le_length f2, f1, List.append_assoc]
  | ro cs n =>
    obtain ⟨e1, e2⟩ := h2
    refine ⟨by simp only [aIdx]; rw [if_pos ⟨by omega, by omega⟩]; simp [ixp], e, by rw [e2, f1]⟩
  | _ => exact h2.elim
namespace W
variable {Q R : AV → AH → Prop} {call : Nat → List AV → AH → O} {h : AH} {m : Mem}
theorem fld {q : AV} {cs : List AV} {o : Nat} {K : AV → O} (p : Pt m q cs) (a : W (K (fldp q o)) Q) : W (pFld o q K) Q := by unfold pFld; rw [p.aFld o]; exact a
theorem ld {q c : AV} {cs : List AV} {K : AV → O} (p : Pt h.blk q (c :: cs)) (a : W (K c) Q) : W (pLd h none q K) Q := by unfold pLd; rw [p.ld]; exact a
theorem ldn {q : AV} {cs : List AV} {n : Nat} {K : AV → O} (p : Pt h.blk q cs) (hn : n = cs.length) (a : W (K (.agg cs)) Q) : W (pLd h (some n) q K) Q := by unfold pLd; rw [p.ldn hn]; exact a
theorem idx {s : Nat} {x : AV} {rows : List (List AV)} {i : Int} {j : Nat} {r : List AV} {K : AV → O} (p : Sl m s x rows) (hr : rows[j]? = some r) (hi : i = (j : Int)) (a : Pt m (ixp s x j) r → W (K (ixp s x j)) Q) : W (pIdx s x i K) Q := by
  obtain ⟨e, p'⟩ := p.idx hr hi; unfold pIdx; rw [e]; exact a p'
theorem len {s : Nat} {x : AV} {rows : List (List AV)} {K : Nat → O} (p : Sl m s x rows) (a : W (K rows.length) Q) : W (pLen x K) Q := by unfold pLen; rw [p.len]; exact a
end W
theorem ld_at {h : AH} {b o : Nat} {cs : List AV} {c : AV} (hb : h.blk b = some cs) (hc : cs[o]? = some c) (K : AV → O) : pLd h none (.ptr b o) K = K c := by
  unfold pLd aLd aCells; simp only [hb, Option.map_some, Option.bind_some, take1, List.head?_drop, hc]
theorem fld_at {b o o' : Nat} (K : AV → O) : pFld o (.ptr b o') K = K (.ptr b (o' + o)) := rfl
theorem nil_at {b o : Nat} (K : AV → O) : pNil (.ptr b o) K = K (.ptr b o) := rfl
theorem len_ro {cs : List AV} {n : Nat} (K : Nat → O) : pLen (.ro cs n) K = K n := rfl
theorem len_sl {b o n s : Nat} (K : Nat → O) : pLen (.sl b o n s) K = K n := rfl
theorem len_nils (K : Nat → O) : pLen .nils K = K 0 := rfl
theorem asK_at {n : Int} (K : Int → O) : asK .i64 (.int .i64 n) K = K n := rfl
theorem st_at {h : AH} {b o : Nat} {cs : List AV} {v : AV} (hb : h.blk b = some cs) (hv : cellsOf v = some [v]) (ho : o < cs.length) (K : AH → O) : pSt h 1 (.ptr b o) v K = K (h.set b (cs.set o v)) := by
  unfold pSt aSt; simp only [hb, hv, Option.bind_some]
  rw [if_pos ⟨rfl, by omega⟩, Option.bind_some, splice, List.length_singleton, List.set_eq_take_append_cons_drop, if_pos ho]
  simp
/-! ### What changes -/
/-- All blocks but some are as they were; new ones may have come. -/
structure Ch (F : List Nat) (h h' : AH) : Prop where
  next : h.next ≤ h'.next
  same : ∀ b, b < h.next → b ∉ F → h'.blk b = h.blk b
/-- No block stands at a number that is not given yet. -/
def Ok (h : AH) : Prop := ∀ b cs, h.blk b = some cs → b < h.next
theorem Ch.refl (F : List Nat) (h : AH) : Ch F h h := ⟨Nat.le_refl _, fun _ _ _ => rfl⟩
theorem Ch.trans {F F' : List Nat} {h h' h'' : AH} (a : Ch F h h') (b : Ch F' h' h'') (hF : ∀ x, x ∈ F' → x ∈ F ∨ h.next ≤ x) : Ch F h h'' :=
  ⟨Nat.le_trans a.next b.next, fun x hx hn => by
    rw [b.same x (Nat.lt_of_lt_of_le hx a.next) (fun hm => (hF x hm).elim hn (by omega)), a.same x hx hn]⟩
theorem Ch.trans0 {F : List Nat} {h h' h'' : AH} (a : Ch F h h') (b : Ch F h' h'') : Ch F h h'' := a.trans b fun _ h => .inl h
theorem Ch.more {F F' : List Nat} {h h' : AH} (a : Ch F h h') (hF : ∀ x, x ∈ F → x ∈ F' ∨ h.next ≤ x) : Ch F' h h' := (Ch.refl F' h).trans a hF
theorem Ch.keep {F : List Nat} {h h' : AH} (a : Ch F h h') {b : Nat} {cs : List AV} (ok : Ok h) (hb : h.blk b = some cs) (hn : b ∉ F) : h'.blk b = some cs := by rw [a.same b (ok _ _ hb) hn, hb]
theorem Ch.set {h : AH} {b : Nat} {cs : List AV} : Ch [b] h (h.set b cs) := ⟨Nat.le_refl _, fun x _ hx => by
  have : x ≠ b := by simpa using hx
  simp [AH.set, this]⟩
theorem Ch.new {h : AH} {cs : List AV} : Ch [] h (h.new cs) := ⟨Nat.le_succ _, fun x hx _ => by simp [AH.new]; omega⟩
theorem Ch.del {h : AH} {b : Nat} : Ch [b] h (h.del b) := ⟨Nat.le_refl _, fun x _ hx => by
  have : x ≠ b := by simpa using hx
  simp [AH.del, this]⟩
theorem Ok.new {h : AH} {cs : List AV} (ok : Ok h) : Ok (h.new cs) := by
  intro b ds hb
  simp only [AH.new] at hb ⊢
  by_cases e : b = h.next
  · omega
  · rw [if_neg e] at hb; have := ok _ _ hb; omega
theorem Ok.set {h : AH} {b : Nat} {cs ds : List AV} (ok : Ok h) (hb : h.blk b = some ds) : Ok (h.set b cs) := by
  intro c es hc
  simp only [AH.set] at hc ⊢
  by_cases e : c = b
  · subst e; exact ok _ _ hb
  · rw [if_neg e] at hc; exact ok _ _ hc
theorem Ok.del {h : AH} {b : Nat} (ok : Ok h) : Ok (h.del b) := by
  intro c es hc
  simp only [AH.del] at hc ⊢
  by_cases e : c = b
  · subst e; simp at hc
  · rw [if_neg e] at hc; exact ok _ _ hc
theorem AH.set_same (h : AH) (b : Nat) (cs : List AV) : (h.set b cs).blk b = some cs := by simp [AH.set]
theorem AH.set_other (h : AH) {b c : Nat} (cs : List AV) (hn : c ≠ b) : (h.set b cs).blk c = h.blk c := by simp [AH.set, hn]
theorem AH.new_same (h : AH) (cs : List AV) : (h.new cs).blk h.next = some cs := by simp [AH.new]
theorem AH.new_other (h : AH) {c : Nat} (cs : List AV) (hn : c ≠ h.next) : (h.new cs).blk c = h.blk c := by simp [AH.new, hn]
/-- x is a slice over a whole block of its own (or nil): B is the block. -/
def Own (h : AH) (s : Nat) (x : AV) (rows : List (List AV)) (B : List Nat) : Prop :=
  (∀ r, r ∈ rows → r.length = s) ∧ ((x = .nils ∧ rows = [] ∧ B = []) ∨ ∃ b, B = [b] ∧ x = .sl b 0 rows.length s ∧ h.blk b = some rows.flatten)
theorem Own.sl {h : AH} {s : Nat} {x : AV} {rows : List (List AV)} {B : List Nat} (o : Own h s x rows B) : Sl h.blk s x rows := by
  refine ⟨o.1, ?_⟩
  rcases o.2 with ⟨rfl, h1, _⟩ | ⟨b, _, rfl, h1⟩
  · exact h1
  · exact ⟨rfl, rfl, _, [], h1, Nat.zero_le _, by simp⟩
theorem Own.keep {h h' : AH} {s : Nat} {x : AV} {rows : List (List AV)} {B F : List Nat} (o : Own h s x rows B) (ok : Ok h) (c : Ch F h h') (hB : ∀ b, b ∈ B → b ∉ F) : Own h' s x rows B := by
  refine ⟨o.1, ?_⟩
  rcases o.2 with ⟨rfl, h1, h2⟩ | ⟨b, rfl, rfl, h1⟩
  · exact .inl ⟨rfl, h1, h2⟩
  · exact .inr ⟨b, rfl, rfl, c.keep ok h1 (hB b (by simp))⟩
theorem Own.lt {h : AH} {s : Nat} {x : AV} {rows : List (List AV)} {B : List Nat} (o : Own h s x rows B) (ok : Ok h) : ∀ b, b ∈ B → b < h.next := by
  rcases o.2 with ⟨_, _, rfl⟩ | ⟨b, rfl, _, h1⟩
  · intro b hb; cases hb
  · intro c hc; have : c = b := by simpa using hc
    subst this; exact ok _ _ h1
theorem flatten_len {s : Nat} : ∀ (rows : List (List AV)), (∀ r, r ∈ rows → r.length = s) → rows.flatten.length = rows.length * s
  | [], _ => by simp
  | a :: l, h => by
    rw [List.flatten_cons, List.length_append, flatten_len l (fun r hr => h r (List.mem_cons_of_mem _ hr)), h a (List.mem_cons_self ..), List.length_cons, Nat.add_mul]; omega
theorem Sl.rdS {h : AH} {s : Nat} {x : AV} {rows : List (List AV)} (p : Sl h.blk s x rows) : rdS h s x = some rows.flatten := by
  have h2 := p.2
  have hl := flatten_len rows p.1
  cases x with
  | nils => have e : rows = [] := h2; subst e; rfl
  | sl b off n s' =>
    obtain ⟨e1, e2, d, e, h1, ho, h3⟩ := h2
    subst e1; subst e2
    have hd : d.length - off = rows.length * s' + e.length := by rw [← List.length_drop, h3, List.length_append, hl]
    simp only [Go.AM.rdS, if_pos, h1, Option.bind_some]
    rw [if_pos (by omega), h3, ← hl, List.take_left]
  | ro cs n => obtain ⟨e1, e2⟩ := h2; simp only [Go.AM.rdS, e1, e2, hl, if_pos]
  | _ => exact h2.elim
theorem Sl.blk {m : Mem} {b s : Nat} {r : List AV} (hb : m b = some r) (hr : r.length = s) : Sl m s (.sl b 0 1 s) [r] :=
  ⟨fun x hx => by simp at hx; rw [hx, hr], rfl, rfl, r, [], hb, Nat.zero_le _, by simp⟩
theorem Sl.blks {m : Mem} {b s : Nat} {rows : List (List AV)} (hb : m b = some rows.flatten) (hr : ∀ r, r ∈ rows → r.length = s) {n : Nat} (hn : n = rows.length) : Sl m s (.sl b 0 n s) rows :=
  ⟨hr, rfl, hn, _, [], hb, Nat.zero_le _, by simp⟩
theorem W.app {Q : AV → AH → Prop} {h : AH} {s bytes : Nat} {x y : AV} {rows rows' : List (List AV)} {B : List Nat} {K : AV → AH → O} (o : Own h s x rows B) (hy : Sl h.blk s y rows') (room : Room (rows.length + rows'.length) bytes) (ok : Ok h)
    (a : ∀ v h' B', Own h' s v (rows ++ rows') B' → Ch B h h' → Ok h' → (∀ b, b ∈ B' → b = h.next) → W (K v h') Q) : W (pApp h s bytes x y K) Q := by
  unfold pApp aApp
  rw [hy.rdS, hy.len]
  simp only [Option.bind_some]
  have hall : ∀ r, r ∈ rows ++ rows' → r.length = s := fun r hr => (List.mem_append.1 hr).elim (o.1 r) (hy.1 r)
  rcases o.2 with ⟨rfl, rfl, rfl⟩ | ⟨b, rfl, rfl, h1⟩
  · by_cases hz : rows'.length = 0
    · have : rows' = [] := List.eq_nil_of_length_eq_zero hz
      subst this
      simp only [List.length_nil, if_pos, Option.bind_some]
      exact a _ _ [] ⟨by simp, .inl ⟨rfl, rfl, rfl⟩⟩ (Ch.refl _ _) ok (by simp)
    · simp only [if_neg hz]
      rw [if_pos (by simpa using room), Option.bind_some]
      refine a _ _ [h.next] ⟨hall, .inr ⟨_, rfl, by simp, ?_⟩⟩ Ch.new ok.new (by simp)
      rw [AH.new_same]; simp
  · simp only [h1, Option.bind_some]
    rw [if_pos (by first | exact ⟨rfl, flatten_len rows o.1, room⟩ | exact ⟨trivial, flatten_len rows o.1, room⟩), Option.bind_some]
    refine a _ _ [h.next] ⟨hall, .inr ⟨_, rfl, by simp, ?_⟩⟩ ?_ (ok.del).new (by simp)
    · have := AH.new_same (h.del b) (rows.flatten ++ rows'.flatten)
      rw [List.flatten_append]; exact this
    · exact Ch.del.trans Ch.new (by simp)
/-- A part of a slice. -/
theorem Sl.slice {m : Mem} {s : Nat} {x : AV} {rows : List (List AV)} (p : Sl m s x rows) {l u : Nat} (hlu : l ≤ u) (hu : u ≤ rows.length) :
    ∃ v, aSlice s x (some (l : Int)) (some (u : Int)) = some v ∧ Sl m s v ((rows.drop l).take (u - l)) := by
  have hall : ∀ r, r ∈ (rows.drop l).take (u - l) → r.length = s := fun r hr => p.1 r (List.mem_of_mem_drop (List.mem_of_mem_take hr))
  have hlen : ((rows.drop l).take (u - l)).length = u - l := by simp; omega
  have hf : ∀ (rows : List (List AV)), (∀ r, r ∈ rows → r.length = s) → ∀ k, k ≤ rows.length → rows.flatten.drop (k * s) = (rows.drop k).flatten ∧ rows.flatten.take (k * s) = (rows.take k).flatten := by
    intro rows hr k hk
    have e : rows.flatten = (rows.take k).flatten ++ (rows.drop k).flatten := by rw [← List.flatten_append, List.take_append_drop]
    have hl : (rows.take k).flatten.length = k * s := by rw [flatten_len _ (fun r hr' => hr r (List.mem_of_mem_take hr')), List.length_take, Nat.min_eq_left hk]
    rw [e]
    exact ⟨by rw [← hl, List.drop_left], by rw [← hl, List.take_left]⟩
  have f1 := (hf rows p.1 l (by omega)).1
  have f2 := (hf (rows.drop l) (fun r hr => p.1 r (List.mem_of_mem_drop hr)) (u - l) (by simp; omega))
  have h2 := p.2
  unfold aSlice
  rw [p.len]
  simp only [Option.bind_some, Option.getD_some]
  rw [if_pos (by omega)]
  cases x with
  | nils => have e : rows = [] := h2; subst e; exact ⟨_, rfl, hall, by simp⟩
  | sl b off n s' =>
    obtain ⟨e1, e2, d, e', h1, ho, h3⟩ := h2
    subst e1
    simp only [if_pos]
    refine ⟨_, rfl, hall, rfl, by rw [hlen]; omega, d, ((rows.drop l).drop (u - l)).flatten ++ e', h1, ?_, ?_⟩
    · have : d.length - off = rows.length * s' + e'.length := by rw [← List.length_drop, h3, List.length_append, flatten_len rows p.1]
      have : l * s' ≤ rows.length * s' := Nat.mul_le_mul_right _ (by omega)
      simp only [Int.toNat_natCast]
      by_cases hz : rows.length * s' = 0
      · omega
      · omega
    · have hl : l * s' ≤ rows.flatten.length := by rw [flatten_len rows p.1]; exact Nat.mul_le_mul_right _ (by omega)
      simp only [Int.toNat_natCast]
      rw [← List.drop_drop, h3, List.drop_append_of_le_length hl, f1]
      conv => lhs; rw [← List.take_append_drop (u - l) (rows.drop l), List.flatten_append]
      simp
  | ro cs n =>
    obtain ⟨e1, e2⟩ := h2
    refine ⟨_, rfl, hall, by rw [hlen]; omega, ?_⟩
    have : ((u : Int) - (l : Int)).toNat = u - l := by omega
    rw [this, Int.toNat_natCast, e2, f1, f2.2]
  | _ => exact h2.elim
theorem cells_agg {cs : List AV} (K : List AV → O) : pCells (.agg cs) K = K cs := rfl
theorem new_eq {h : AH} {cs : List AV} (K : Nat → AH → O) : pNew h cs K = K h.next (h.new cs) := rfl
theorem fill_all {z cs : List AV} {n : Nat} (hz : z.length = n) (hc : cs.length = n) (K : List AV → O) : pFill z [(0, n, .agg cs)] K = K cs := by
  unfold pFill fillA fillA; simp only [cellsOf, Option.bind_some]
  rw [if_pos ⟨hc, by omega⟩, Option.bind_some, splice, List.drop_of_length_le (by omega)]; simp
theorem fill_one {z : AV} {k : IntKind} {n : Int} (K : List AV → O) : pFill [z] [(0, 1, .int k n)] K = K [.int k n] := rfl
theorem fill_nil (K : List AV → O) : pFill [] [] K = K [] := rfl
def Sub (m : Mem) (h : AH) : Prop := ∀ c d, m c = some d → h.blk c = some d
theorem Sub.keep {m : Mem} {F : List Nat} {h h' : AH} (s : Sub m h) (ok : Ok h) (c : Ch F h h') (hF : ∀ f, f ∈ F → m f = none) : Sub m h' := fun b d hb => c.keep ok (s b d hb) (fun hf => by rw [hF b hf] at hb; cases hb)
theorem Sub.fresh {m : Mem} {h : AH} (s : Sub m h) (ok : Ok h) {b : Nat} (hb : h.next ≤ b) : m b = none := by
  cases e : m b with
  | none => rfl
  | some d => have := ok _ _ (s b d e); omega
theorem Ok.sub_new {h : AH} (ok : Ok h) {cs : List AV} : ∀ b d, h.blk b = some d → (h.new cs).blk b = some d := fun b d hb => by rw [AH.new_other h cs (by have := ok _ _ hb; omega), hb]
/-- A slice of numbers that is read. -/
def Ints (m : Mem) (x : AV) (l : List Int) : Prop := Sl m 1 x (l.map fun n => [.int .i64 n])
theorem W.lenInts {Q : AV → AH → Prop} {m : Mem} {x : AV} {l : List Int} {K : Nat → O} (p : Ints m x l) (a : W (K l.length) Q) : W (pLen x K) Q := W.len p (by simpa using a)
theorem W.idxInts {Q : AV → AH → Prop} {m : Mem} {x : AV} {l : List Int} {i : Int} {K : AV → O} (p : Ints m x l) (h0 : 0 ≤ i) (h1 : i < l.length) (a : ∀ q n, l[i.toNat]? = some n → Pt m q [.int .i64 n] → W (K q) Q) : W (pIdx 1 x i K) Q := by
  obtain ⟨j, rfl⟩ := Int.eq_ofNat_of_zero_le h0
  have hj : j < l.length := by omega
  exact W.idx p (j := j) (r := [.int .i64 l[j]]) (by simp [hj]) rfl fun pt => a _ _ (by simp [hj]) pt
theorem W.ldI {Q : AV → AH → Prop} {h : AH} {q : AV} {n : Int} {cs : List AV} {K : Int → O} (p : Pt h.blk q (.int .i64 n :: cs)) (a : W (K n) Q) : W (pLd h none q fun v => asK .i64 v K) Q := W.ld p a
theorem room_ok {n b : Nat} (hn : n ≤ 100000000) (hb : b ≤ 1000) : Room n b := by
  unfold Room maxRoom
  have : n * b ≤ 100000000 * 1000 := Nat.mul_le_mul hn hb
  omega
theorem Sub.mono {m m' : Mem} {h : AH} (s : Sub m' h) (hm : ∀ b d, m b = some d → m' b = some d) : Sub m h := fun b d hb => s b d (hm b d hb)
/-- Some blocks are kept as they are from here on. -/
def Mem.add (m : Mem) (h : AH) (B : List Nat) : Mem := fun b => if b ∈ B then h.blk b else m b
theorem Sub.add {m : Mem} {h : AH} (s : Sub m h) (B : List Nat) : Sub (m.add h B) h := by
  intro b d hb
  unfold Mem.add at hb
  by_cases e : b ∈ B
  · rw [if_pos e] at hb; exact hb
  · rw [if_neg e] at hb; exact s b d hb
theorem Mem.le_add {m : Mem} {h : AH} (s : Sub m h) (B : List Nat) : ∀ b d, m b = some d → m.add h B b = some d := by
  intro b d hb
  unfold Mem.add
  by_cases e : b ∈ B
  · rw [if_pos e]; exact s b d hb
  · rw [if_neg e]; exact hb
theorem Mem.add_none {m : Mem} {h : AH} {B : List Nat} {b : Nat} (hm : m b = none) (hb : b ∉ B) : m.add h B b = none := by unfold Mem.add; rw [if_neg hb]; exact hm
theorem Own.add {m : Mem} {h : AH} {s : Nat} {x : AV} {rows : List (List AV)} {B : List Nat} (o : Own h s x rows B) : Sl (m.add h B) s x rows := by
  refine ⟨o.1, ?_⟩
  rcases o.2 with ⟨rfl, h1, _⟩ | ⟨b, rfl, rfl, h1⟩
  · exact h1
  · exact ⟨rfl, rfl, _, [], by unfold Mem.add; rw [if_pos (by simp)]; exact h1, Nat.zero_le _, by simp⟩
theorem Own.new {h : AH} {s : Nat} : Own (h.new []) s (.sl h.next 0 0 s) [] [h.next] := ⟨by simp, .inr ⟨_, rfl, rfl, by simp [AH.new_same]⟩⟩
theorem Ints.pt {m : Mem} {x : AV} {l : List Int} {j : Nat} {n : Int} (p : Ints m x l) (hn : l[j]? = some n) : Pt m (ixp 1 x j) [.int .i64 n] := (Sl.idx p (j := j) (r := [.int .i64 n]) (by simp [hn]) rfl).2
theorem W.idxJ {Q : AV → AH → Prop} {m : Mem} {x : AV} {l : List Int} {i : Int} {K : AV → O} (p : Ints m x l) (h0 : 0 ≤ i) (h1 : i < l.length) (a : ∀ n, l[i.toNat]? = some n → W (K (ixp 1 x i.toNat)) Q) : W (pIdx 1 x i K) Q := by
  obtain ⟨j, rfl⟩ := Int.eq_ofNat_of_zero_le h0
  have hj : j < l.length := by omega
  exact W.idx p (j := j) (r := [.int .i64 l[j]]) (by simp [hj]) rfl fun _ => a l[j] (by simp [hj])
theorem W.fill {Q : AV → AH → Prop} {z cs : List AV} {ps : List (Nat × Nat × AV)} {K : List AV → O} (e : fillA z ps = some cs) (a : W (K cs) Q) : W (pFill z ps K) Q := by unfold pFill; rw [e]; exact a
/-! ### Numbers -/
theorem wr {n : Int} (h1 : -9223372036854775808 ≤ n) (h2 : n ≤ 9223372036854775807) : IntKind.i64.wrap n = n := by rw [IntKind.wrap_i64]; omega
end Go.AM
