/- Plans are drawn. -/
import Derived.Test.YtfcdnfbhoppefaaMS2
namespace Go.AM
set_option linter.unusedVariables false
set_option linter.unusedSimpArgs false
set_option maxRecDepth 100000
theorem randomWidths_loop {T : Nat → Option AF} (H37 : T 37 = some spec_reader_pick.ir) {k : Nat} (hk : 1 ≤ k) {rb : Nat} : ∀ (d i1 : Nat) (n p : Int) (h : AH) (x : AV) (l : List Int) (B : List Nat), n = d → d < i1 → d ≤ 10 → l.length + d ≤ 1000 → Rd h rb p → 0 ≤ p → p + d ≤ 1000000 → Ok h → Own h 1 x (l.map fun n => [.int .i64 n]) B → (∀ b, b ∈ B → b ≠ rb) → (∀ n, n ∈ l → 1 ≤ n) →
    W (spec_randomWidths.L1 (run T k) k i1 (.ptr rb 0) x n h) fun v h' => ∃ (l' : List Int) (B' : List Nat), Rd h' rb (p + d) ∧ Ok h' ∧ Own h' 1 v (l'.map fun n => [.int .i64 n]) B' ∧ Ch (rb :: B) h h' ∧ (∀ b, b ∈ B' → b ≠ rb ∧ (b ∈ B ∨ h.next ≤ b)) ∧ (∀ n, n ∈ l' → 1 ≤ n) ∧ l'.length = l.length + d := by
  intro d
  induction d with
  | zero =>
    intro i1 n p h x l B hn h1 h2 hl r p0 p1 ok o hB hp
    obtain ⟨i1, rfl⟩ : ∃ j, i1 = j + 1 := ⟨i1 - 1, by omega⟩
    rw [spec_randomWidths.L1_succ]
    refine W.bif_ (fun c => ?_) fun c => ?_
    · have : 0 < n := by simpa using c
      omega
    · rw [spec_randomWidths.J4_eq]
      exact W.ret ⟨l, B, by simpa using r, ok, o, Ch.refl _ _, fun b hb => ⟨hB b hb, .inl hb⟩, hp, rfl⟩
  | succ d ih =>
    intro i1 n p h x l B hn h1 h2 hl r p0 p1 ok o hB hp
    obtain ⟨i1, rfl⟩ : ∃ j, i1 = j + 1 := ⟨i1 - 1, by omega⟩
    rw [spec_randomWidths.L1_succ]
    refine W.bif_ (fun c => ?_) fun c => ?_
    · rw [spec_randomWidths.J2_eq]
      refine W.callI (pick_ok H37 hk r (by omega) ok) fun n1 h' ⟨q1, q2, q3, q4, q5, q6⟩ => ?_
      rw [wr (n := 1 + n1) (by omega) (by omega)]
      simp only [fill_one, new_eq]
      have o1 := (o.keep ok q2 (by simpa using hB)).keep q3 (Ch.new (cs := [.int .i64 (1 + n1)])) (by simp)
      refine W.app o1 (Sl.blk (AH.new_same ..) rfl) (room_ok (by simp; omega) (by omega)) q3.new fun v h2 B' a1 a2 a3 a4 => ?_
      rw [spec_randomWidths.J3_eq, wr (by omega) (by omega)]
      have hlt := o.lt ok
      have c0 : Ch (rb :: B) h (h'.new [.int .i64 (1 + n1)]) := (q2.trans Ch.new (by simp)).more (by intro x hx; left; simp at hx; simp [hx])
      have c1 : Ch (rb :: B) h h2 := c0.trans a2 (by intro x hx; left; simp [hx])
      have r2 : Rd h2 rb (p + 1) := (q1.keep q3 Ch.new (by simp)).keep q3.new a2 (fun hx => hB _ hx rfl)
      have nx : (h'.new [.int .i64 (1 + n1)]).next = h.next + 1 := by show h'.next + 1 = _; omega
      have a4' : ∀ b, b ∈ B' → b = h.next + 1 := fun b hb => by rw [a4 b hb, nx]
      have hrb : rb < h.next := by obtain ⟨_, _, _, e⟩ := r; exact ok _ _ e
      refine (ih i1 (n - 1) (p + 1) h2 v (l ++ [1 + n1]) B' (by omega) (by omega) (by omega) ?_ r2 (by omega) ?_ a3 (by simpa using a1) (fun b hb => by have := a4' b hb; omega) (fun m hm => ?_)).mono fun v h3 ⟨l', B2, b1, b2, b3, b4, b5, b6, b7⟩ => ⟨l', B2, ?_, b2, b3, ?_, ?_, b6, ?_⟩
      · simp; omega
      · omega
      · rcases List.mem_append.1 hm with hm | hm
        · exact hp m hm
        · simp at hm; omega
      · have : p + 1 + (d : Int) = p + ((d + 1 : Nat) : Int) := by omega
        rw [← this]; exact b1
      · refine c1.trans b4 (fun x hx => ?_)
        rcases List.mem_cons.1 hx with rfl | hx
        · left; simp
        · right; have := a4' x hx; omega
      · intro b hb
        refine ⟨(b5 b hb).1, .inr ?_⟩
        have := c1.next
        rcases (b5 b hb).2 with h3 | h3
        · have := a4' b h3; omega
        · omega
      · rw [b7, List.length_append]; simp; omega
    · have : n ≤ 0 := by simpa using c
      omega
theorem randomWidths_ok {T : Nat → Option AF} (H : T 210 = some spec_randomWidths.ir) (H37 : T 37 = some spec_reader_pick.ir) {k : Nat} (hk : 100 ≤ k) {rb : Nat} {h : AH} {p : Int} (r : Rd h rb p) (p0 : 0 ≤ p) (p1 : p ≤ 100000) (ok : Ok h) :
    W (run T k 210 [.ptr rb 0] h) fun v h' => ∃ (l : List Int) (B : List Nat) (p' : Int), Rd h' rb p' ∧ p ≤ p' ∧ p' ≤ p + 10 ∧ Ok h' ∧ Own h' 1 v (l.map fun n => [.int .i64 n]) B ∧ Ch [rb] h h' ∧ (∀ b, b ∈ B → h.next ≤ b) ∧ (∀ n, n ∈ l → 1 ≤ n) ∧ l ≠ [] ∧ l.length ≤ 10 := by
  obtain ⟨k, rfl⟩ : ∃ j, k = j + 1 := ⟨k - 1, by omega⟩
  rw [spec_randomWidths_run T H]
  simp only [fill_nil, new_eq]
  have hrb : rb < h.next := by obtain ⟨_, _, _, e⟩ := r; exact ok _ _ e
  refine W.callI (pick_ok H37 (by omega) (r.keep ok Ch.new (by simp)) (by omega) ok.new) fun n1 h' ⟨q1, q2, q3, q4, q5, q6⟩ => ?_
  have hn : n1 < 3 := by omega
  obtain ⟨j, rfl⟩ := Int.eq_ofNat_of_zero_le q5
  rw [wr (by omega) (by omega)]
  have nx : (h.new ([] : List AV)).next = h.next + 1 := rfl
  refine (randomWidths_loop H37 (by omega) (j + 1) k (1 + (j : Int)) (p + 1) h' (.sl h.next 0 0 1) [] [h.next] (by omega) (by omega) (by omega) (by simp; omega) q1 (by omega) (by omega) q3 (Own.new.keep ok.new q2 (by simp; omega)) (by simp; omega) (by simp)).mono fun v h2 ⟨l', B', b1, b2, b3, b4, b5, b6, b7⟩ => ?_
  refine ⟨l', B', _, b1, by omega, by omega, b2, b3, ?_, ?_, b6, ?_, ?_⟩
  · refine (((Ch.new.more (F' := [rb]) (by simp)).trans q2 fun x hx => .inl hx).trans b4) fun x hx => ?_
    simp at hx
    rcases hx with rfl | rfl
    · left; simp
    · right; omega
  · intro b hb
    rcases (b5 b hb).2 with h3 | h3
    · simp at h3; omega
    · omega
  · intro e; rw [e] at b7; simp at b7
  · rw [b7]; simp; omega
end Go.AM
