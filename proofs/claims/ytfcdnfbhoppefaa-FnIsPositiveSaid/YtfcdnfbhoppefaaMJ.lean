/- Operations of the machine that write, make memory or call, are Go's. -/
import Derived.Test.YtfcdnfbhoppefaaMH
namespace Go.AM
set_option linter.unusedVariables false
set_option linter.unusedSimpArgs false
open Go.RowKit
variable {σ : Nat → FuncId} {w0 : World} {ρ ρ' : Mp} {P : Program} {call : Nat → List AV → AH → O}
theorem AH.del_set (h : AH) (b : Nat) (cs : List AV) : (h.set b cs).del b = h.del b := by
  unfold AH.set AH.del
  congr 1
  funext x
  by_cases hx : x = b
  · rw [if_pos hx, if_pos hx]
  · rw [if_neg hx, if_neg hx]
    exact if_neg hx
theorem HR.newL {h : AH} {w : World} (r : HR σ w0 ρ h w) {cs : List AV} {c : Array Value} (e : TypeId) (hv : VL σ w0 ρ cs c.toList) :
    HR σ w0 (ρ.add h.next w.heap.size c.size) (h.new cs) (w.alloc (.cells c e)) := by
  have hl : c.size = cs.length := by rw [← Array.length_toList]; exact hv.1
  refine r.new e (by omega) ?_
  rw [List.take_of_length_le (by rw [Array.length_toList]; omega)]
  exact hv
theorem store_wp {h h' : AH} {w : World} (r : HR σ w0 ρ h w) {p x : AV} {pu xu : Value} (hp : VR σ w0 ρ p pu) (hx : VR σ w0 ρ x xu) {n : Nat} {t : TypeId} (hs : szOf P t = some n) (hv : aSt h n p x = some h') :
    ∃ w', (Instr.storeAt t pu xu).run P w = .ok () w' ∧ HR σ w0 ρ h' w' := by
  unfold aSt at hv
  split at hv
  case h_2 => cases hv
  rename_i b off
  obtain ⟨cs, hcs, hv⟩ := Option.bind_eq_some_iff.1 hv
  obtain ⟨us, hus, hv⟩ := Option.bind_eq_some_iff.1 hv
  split at hv
  case isFalse => cases hv
  rename_i hc
  cases hv
  cases hp with
  | ptr _ _ g z hb =>
    have hl := cellsOf_VL hx hus
    obtain ⟨c, e, q1, q2, q3, q4⟩ := r.blk b cs g z hcs hb
    have hlen : xu.cells.toList.length = n := by rw [hl.1]; exact hc.1
    have hst := run_storeCells_at P g off e xu.cells.toList 0 c w q1 (by omega) hl.one
    simp only [Nat.add_zero] at hst
    refine ⟨_, ?_, r.write (cs' := splice cs off us) (d := (c.toList.take off ++ xu.cells.toList ++ c.toList.drop (off + xu.cells.toList.length)).toArray) hcs hb q1 ?_ ?_ ?_⟩
    · have hsz := run_sizeOf (P := P) hs w
      have : xu.cells.size = n := by rw [← Array.length_toList]; exact hlen
      simp only [Instr.storeAt, Instr.sureAddr, storeVar, Sem.run_bind, Sem.run_pure, Result.andThen_ok, hsz, this, ne_eq, not_true_eq_false, if_false]
      exact hst
    · simp only [List.size_toArray, List.length_append, List.length_take, List.length_drop, Array.length_toList, hlen]
      omega
    · unfold splice
      simp only [List.length_append, List.length_take, List.length_drop, hc.1]
      omega
    · have hfull : VL σ w0 ρ cs (c.toList.take cs.length) := q4
      have hsp := hfull.splice hl off
      have e1 : (splice cs off us).length = cs.length := by
        unfold splice
        simp only [List.length_append, List.length_take, List.length_drop, hc.1]
        omega
      rw [e1]
      have e2 : List.take cs.length (c.toList.take off ++ xu.cells.toList ++ c.toList.drop (off + xu.cells.toList.length)) = (c.toList.take cs.length).take off ++ xu.cells.toList ++ (c.toList.take cs.length).drop (off + xu.cells.toList.length) := by
        rw [List.take_append, List.take_append]
        have l1 : (c.toList.take off).length = off := by rw [List.length_take, Array.length_toList]; omega
        have l2 : (c.toList.take off ++ xu.cells.toList).length = off + n := by rw [List.length_append, l1, hlen]
        rw [l1, l2, hlen, List.take_take, List.take_of_length_le (l := xu.cells.toList) (by rw [hlen]; omega), List.take_drop, List.take_take]
        rw [show off + n + (cs.length - (off + n)) = cs.length by omega, Nat.min_comm]
      rw [e2]
      exact hsp
theorem run_append_room0 (w : World) (t ty e e0 : TypeId) (i : TypeInfo) (ht : P.underlying t = some (.slice e)) (hi : P.info? e = some i)
    (g sLen sCap : Nat) (cur : Array Value) (hg : w.heap[g]? = some (.cells cur e0 (0, 0)))
    (a : Addr) (m c : Nat) (news : List Value) (hl : news.length = m * i.size) (hnews : ∀ j u, news[j]? = some u → w.cell? (a.add j) = some u) (h1 : ∀ u ∈ news, u.oneCell' = true)
    (hroom : sLen + m ≤ sCap) (hfit : sLen * i.size + news.length ≤ cur.size) :
    (Builtin.append_ #[t, t] ty #[.slice (some ⟨g, 0, none⟩) sLen sCap, .slice (some a) m c]).run P w =
      .ok (.slice (some ⟨g, 0, none⟩) (sLen + m) sCap) (w.setRow g (cur.toList.take (sLen * i.size) ++ news ++ cur.toList.drop (sLen * i.size + news.length)).toArray) := by
  have hf := run_firstCells_some (P := P) w i.size m a m c news hl hnews
  have hst := run_storeCells_at P g (sLen * i.size) e0 news 0 cur w hg (by simpa using hfit) h1
  simp only [Nat.add_zero] at hst
  simp [Builtin.append_, run_underlying ht, sizeOf, typeInfo, hi, Builtin.lenOf, hroom, hf, Addr.add_lit, hst]
theorem Room.le {n b : Nat} (h : Room n b) : n ≤ 1099511627776 ∧ n * b ≤ 1099511627776 := h
theorem app_wp {h h' : AH} {w : World} (r : HR σ w0 ρ h w) {x y v : AV} {xu yu : Value} (hx : VR σ w0 ρ x xu) (hy : VR σ w0 ρ y yu) {s by_ : Nat} {t ty e : TypeId} {i : TypeInfo} {z : Value} (he : P.underlying t = some (.slice e)) (hi : P.info? e = some i) (hs : i.size = s) (hb : i.bytes = by_) (hz : i.zero = some z) (hzs : z.cells.size = s)
    (hv : aApp h s by_ x y = some (v, h')) : ∃ u w' ρ', (Builtin.append_ #[t, t] ty #[xu, yu]).run P w = .ok u w' ∧ ρ.le ρ' ∧ VR σ w0 ρ' v u ∧ HR σ w0 ρ' h' w' := by
  subst hb
  unfold aApp at hv
  obtain ⟨vs, hvs, hv⟩ := Option.bind_eq_some_iff.1 hv
  obtain ⟨m, hm, hv⟩ := Option.bind_eq_some_iff.1 hv
  have hrd := r.slice hy hvs hm
  -- nothing is appended
  have none_ : ∀ (A : Option Addr) (n cap : Nat), m = 0 → n ≤ cap → (Builtin.append_ #[t, t] ty #[.slice A n cap, yu]).run P w = .ok (.slice A n cap) w := by
    intro A n cap hm0 hc
    rcases hrd with ⟨rfl, _, _, _⟩ | ⟨_, _, B, c2, us, rfl, _⟩
    · cases A <;> simp [Builtin.append_, run_underlying he, sizeOf, typeInfo, hi, Builtin.lenOf, Builtin.firstCells, hc, storeCells]
    · subst hm0
      cases A <;> cases B <;> simp [Builtin.append_, run_underlying he, sizeOf, typeInfo, hi, Builtin.lenOf, Builtin.firstCells, loadCells, loadCellsFrom, hc, storeCells]
  have some_ : m ≠ 0 → ∃ ad c us, yu = .slice (some ad) m c ∧ us.length = m * s ∧ VL σ w0 ρ vs us ∧ ∀ j v, us[j]? = some v → w.cell? (ad.add j) = some v := by
    intro hm0
    rcases hrd with ⟨_, _, h0, _⟩ | ⟨_, hl, B, c2, us, rfl, hc2, hus, h0 | ⟨ad, rfl, hcell⟩⟩
    · exact absurd h0 hm0
    · exact absurd h0 hm0
    · exact ⟨ad, c2, us, rfl, by rw [hus.1, hl], hus, hcell⟩
  have zsz : ∀ k, (Builtin.zeroCells z.cells k).size = k * s := fun k => by rw [size_zeroCells, hzs]
  cases x with
  | nils =>
    cases hx
    dsimp only at hv
    split at hv
    · rename_i hm0
      cases hv
      exact ⟨_, w, ρ, none_ none 0 0 hm0 (Nat.le_refl _), ρ.le_refl, .nils, r⟩
    · rename_i hm0
      split at hv
      case isFalse => cases hv
      rename_i hroom
      cases hv
      obtain ⟨hr1, hr2⟩ := hroom.le
      obtain ⟨ad, c, us, rfl, hl, hus, hcell⟩ := some_ hm0
      have hrun := run_append_nil (P := P) w t ty e i z he hi hz ad m c us (by rw [hl, hs]) hcell (Nat.pos_of_ne_zero hm0) (Int.ofNat_le.2 (Nat.le_trans hr1 (by decide))) (Nat.le_trans hr2 (by decide))
      have hge := grownCap_ge w m 0 e
      have hnew := r.drew.new (cs := vs) (c := us.toArray ++ Builtin.zeroCells z.cells (grownCap w m 0 e - m)) e (by simp [hus.1]) (by
        have : List.take vs.length (us.toArray ++ Builtin.zeroCells z.cells (grownCap w m 0 e - m)).toList = us := by
          rw [Array.toList_append, ← hus.1]
          exact List.take_left
        rw [this]; exact hus)
      refine ⟨_, _, _, hrun, Mp.le_add (r.fresh _ (Nat.le_refl _)), ?_, hnew⟩
      refine .sl h.next 0 m s w.heap.size _ _ _ Mp.add_self hge (.inl ⟨rfl, ?_⟩)
      rw [Array.size_append, zsz, List.size_toArray, hl, Nat.zero_add, ← Nat.add_mul]
      congr 1
      omega
  | sl bk off n s' =>
    cases off with
    | succ off => cases hv
    | zero =>
      obtain ⟨cs, hcs, hv⟩ := Option.bind_eq_some_iff.1 (show (h.blk bk).bind (fun cs => if s' = s ∧ cs.length = n * s ∧ Room (n + m) i.bytes then some (AV.sl h.next 0 (n + m) s, (h.del bk).new (cs ++ vs)) else none) = some (v, h') from hv)
      split at hv
      case isFalse => cases hv
      rename_i hc
      obtain ⟨rfl, hcl, hroom⟩ := hc
      obtain ⟨hr1, hr2⟩ := hroom.le
      cases hv
      cases hx with
      | sl _ _ _ _ g zz cap a h4 h5 h6 =>
        rcases h6 with ⟨rfl, h7⟩ | ⟨_, h8⟩
        case inr => omega
        rw [Nat.zero_add] at h7
        obtain ⟨c0, e0, q1, q2, q3, q4⟩ := r.blk bk cs g zz hcs h4
        by_cases hm0 : m = 0
        · have hvs0 : vs = [] := by
            rcases hrd with ⟨_, _, _, h0⟩ | ⟨_, hl, _⟩
            · exact h0
            · exact List.eq_nil_of_length_eq_zero (by rw [hl, hm0]; omega)
          have hrn := r.rename hcs h4
          refine ⟨_, w, _, none_ _ n cap hm0 h5, Mp.le_add (r.fresh _ (Nat.le_refl _)), ?_, by rw [hvs0, List.append_nil]; exact hrn⟩
          subst hm0
          exact .sl h.next 0 n s' g zz cap _ Mp.add_self h5 (.inl ⟨rfl, by omega⟩)
        · obtain ⟨ad, c, us, rfl, hl, hus, hcell⟩ := some_ hm0
          have hvl : vs.length = m * s' := by rw [← hus.1, hl]
          by_cases hfit : n + m ≤ cap
          · have hms : (n + m) * s' ≤ cap * s' := Nat.mul_le_mul_right _ hfit
            rw [Nat.add_mul] at hms
            have hrun := run_append_room0 (P := P) w t ty e e0 i he hi g n cap c0 q1 ad m c us (by rw [hl, hs]) hcell hus.one hfit (by rw [hs, hl]; omega)
            rw [hs] at hrun
            have ht1 : (c0.toList.take (n * s')).length = cs.length := by rw [List.length_take, Array.length_toList, hcl]; omega
            have hw := r.write (cs' := cs ++ vs) (d := (c0.toList.take (n * s') ++ us ++ c0.toList.drop (n * s' + us.length)).toArray) hcs h4 q1 (by
              simp only [List.size_toArray, List.length_append, List.length_take, List.length_drop, Array.length_toList, hl]; omega) (by rw [List.length_append, hcl, hvl]; omega) (by
              have : List.take (cs ++ vs).length (c0.toList.take (n * s') ++ us ++ c0.toList.drop (n * s' + us.length)) = c0.toList.take cs.length ++ us := by
                rw [show (cs ++ vs).length = (c0.toList.take (n * s') ++ us).length by rw [List.length_append, List.length_append, ht1, hus.1], List.take_left, hcl]
              rw [this]
              exact q4.append hus)
            have hb2 : (h.set bk (cs ++ vs)).blk bk = some (cs ++ vs) := if_pos rfl
            have hrn := hw.rename hb2 h4
            rw [AH.del_set] at hrn
            refine ⟨_, _, _, hrun, Mp.le_add (r.fresh _ (Nat.le_refl _)), ?_, hrn⟩
            exact .sl h.next 0 (n + m) s' g zz cap _ Mp.add_self hfit (.inl ⟨rfl, by omega⟩)
          · have hcsz : cs.length ≤ c0.toList.length := by rw [← q2] at q3; exact q3
            have ht0 : (c0.toList.take cs.length).length = cs.length := by rw [List.length_take]; exact Nat.min_eq_left hcsz
            have hcell0 : ∀ j v, (c0.toList.take cs.length)[j]? = some v → w.cell? ((⟨g, 0, none⟩ : Addr).add j) = some v := by
              intro j v hj
              rw [List.getElem?_take] at hj
              split at hj
              · rw [add_off, cell_of_row w g _ c0 e0 (0, 0) q1]
                simpa using hj
              · cases hj
            have hrun := run_append_grow (P := P) w t ty e i z he hi hz ⟨g, 0, none⟩ n cap (c0.toList.take cs.length) (by rw [List.length_take, hs, ← hcl]; exact Nat.min_eq_left hcsz) hcell0 ad m c us (by rw [hl, hs]) hcell (Nat.lt_of_not_le hfit) (Int.ofNat_le.2 (Nat.le_trans hr1 (by decide))) (growslice_fits (Nat.lt_of_not_le hfit) (Nat.le_trans hr2 (by decide)))
            have hge := grownCap_ge w (n + m) cap e
            have hnew := (r.del bk).drew.new (cs := cs ++ vs) (c := (c0.toList.take cs.length).toArray ++ us.toArray ++ Builtin.zeroCells z.cells (grownCap w (n + m) cap e - (n + m))) e (by
              rw [Array.size_append, Array.size_append, List.size_toArray, List.size_toArray, ht0, hus.1, List.length_append]; omega) (by
              have : List.take (cs ++ vs).length ((c0.toList.take cs.length).toArray ++ us.toArray ++ Builtin.zeroCells z.cells (grownCap w (n + m) cap e - (n + m))).toList = c0.toList.take cs.length ++ us := by
                rw [Array.toList_append, Array.toList_append, show (cs ++ vs).length = ((c0.toList.take cs.length) ++ us).length by rw [List.length_append, List.length_append, hus.1, ht0]]
                exact List.take_left
              rw [this]
              exact q4.append hus)
            refine ⟨_, _, _, hrun, Mp.le_add (r.fresh _ (Nat.le_refl _)), ?_, hnew⟩
            refine .sl h.next 0 (n + m) s' w.heap.size _ _ _ Mp.add_self hge (.inl ⟨rfl, ?_⟩)
            rw [Array.size_append, Array.size_append, zsz, List.size_toArray, List.size_toArray, hl, ht0, hcl, Nat.zero_add, ← Nat.add_mul, ← Nat.add_mul]
            congr 1
            omega
  | _ => cases hv
theorem run_clear {t ty e : TypeId} {w w' : World} {ad : Addr} {n cap : Nat} {zv : Value} (hn : n ≠ 0) (he : P.underlying t = some (.slice e)) (hzr : ∀ w, (zeroValue e).run P w = .ok zv w) (hst : (storeCells ad (Builtin.zeroCells zv.cells n).toList).run P w = .ok () w') :
    (Builtin.clear_ #[t] ty #[.slice (some ad) n cap]).run P w = .ok (.tuple #[]) w' := by
  cases n with
  | zero => exact absurd rfl hn
  | succ n => simp [Builtin.clear_, run_underlying he, hzr, hst]
theorem clear_wp {h h' : AH} {w : World} (r : HR σ w0 ρ h w) {x : AV} {xu : Value} (hx : VR σ w0 ρ x xu) {s : Nat} {z : List AV} {t ty e : TypeId} (he : P.underlying t = some (.slice e)) (hz : zeroOk P e z = true) (hzs : z.length = s)
    (hv : aClear h s z x = some h') : ∃ w', (Builtin.clear_ #[t] ty #[xu]).run P w = .ok (.tuple #[]) w' ∧ HR σ w0 ρ h' w' := by
  obtain ⟨zv, hzr, hzl⟩ := zeroOk_run (P := P) (σ := σ) (w0 := w0) hz
  have hzl := hzl ρ
  unfold aClear at hv
  split at hv
  · cases hv
    cases hx
    exact ⟨w, by simp [Builtin.clear_, run_underlying he], r⟩
  · rename_i b off n s'
    obtain ⟨cs, hcs, hv2⟩ := Option.bind_eq_some_iff.1 hv
    split at hv2
    case isFalse => cases hv2
    rename_i hc
    obtain ⟨rfl, hle⟩ := hc
    obtain rfl := Option.some.inj hv2
    cases hx with
    | sl _ _ _ _ g zz cap a h4 h5 h6 =>
      obtain ⟨c, e0, q1, q2, q3, q4⟩ := r.blk b cs g zz hcs h4
      have hrep : VL σ w0 ρ (List.replicate n z).flatten (List.replicate n zv.cells.toList).flatten := VL.rep hzl n
      have hzn : zv.cells.size = s' := by rw [← Array.length_toList, hzl.1, hzs]
      have hlen : (List.replicate n zv.cells.toList).flatten.length = n * s' := by
        simp [List.length_flatten, hzn]
      have hcells : (Builtin.zeroCells zv.cells n).toList = (List.replicate n zv.cells.toList).flatten := by
        have := rep_cells zv.cells n s' hzn
        unfold Builtin.zeroCells
        rw [hzn]
        rw [hzn] at this
        exact this
      have hrun : ∃ w', (Builtin.clear_ #[t] ty #[.slice (some a) n cap]).run P w = .ok (.tuple #[]) w' ∧ w' = w.setRow g (c.toList.take off ++ (List.replicate n zv.cells.toList).flatten ++ c.toList.drop (off + n * s')).toArray := by
        by_cases hn : n = 0
        · subst hn
          refine ⟨w, by simp [Builtin.clear_, run_underlying he], ?_⟩
          simp only [List.replicate_zero, List.flatten_nil, List.append_nil, Nat.zero_mul, Nat.add_zero, List.take_append_drop, Array.toArray_toList]
          exact (setRow_self w g c e0 (0, 0) q1).symm
        · rcases h6 with ⟨rfl, h7⟩ | ⟨h7, _⟩
          case inr => omega
          have hst := run_storeCells_at P g off e0 (Builtin.zeroCells zv.cells n).toList 0 c w q1 (by rw [hcells, hlen]; omega) (by rw [hcells]; exact hrep.one)
          rw [Nat.add_zero] at hst
          have e3 : (Builtin.zeroCells zv.cells n).toList.length = n * s' := by rw [hcells, hlen]
          rw [e3] at hst
          exact ⟨_, run_clear hn he hzr hst, by rw [← hcells]⟩
      obtain ⟨w', hr1, rfl⟩ := hrun
      refine ⟨_, hr1, r.write hcs h4 q1 ?_ ?_ ?_⟩
      · simp only [List.size_toArray, List.length_append, List.length_take, List.length_drop, Array.length_toList, hlen]; omega
      · unfold splice
        have : (List.replicate n z).flatten.length = n * s' := by simp [List.length_flatten, hzs]
        simp only [List.length_append, List.length_take, List.length_drop, this]
        omega
      · have hl2 : (List.replicate n z).flatten.length = n * s' := by simp [List.length_flatten, hzs]
        have hsp := q4.splice hrep off
        have e1 : (splice cs off (List.replicate n z).flatten).length = cs.length := by
          unfold splice
          simp only [List.length_append, List.length_take, List.length_drop, hl2]
          omega
        rw [e1]
        have e2 : List.take cs.length (c.toList.take off ++ (List.replicate n zv.cells.toList).flatten ++ c.toList.drop (off + n * s')) = (c.toList.take cs.length).take off ++ (List.replicate n zv.cells.toList).flatten ++ (c.toList.take cs.length).drop (off + (List.replicate n zv.cells.toList).flatten.length) := by
          rw [hlen, List.take_append, List.take_append]
          have l1 : (c.toList.take off).length = off := by rw [List.length_take, Array.length_toList]; omega
          have l2 : (c.toList.take off ++ (List.replicate n zv.cells.toList).flatten).length = off + n * s' := by rw [List.length_append, l1, hlen]
          rw [l1, l2, List.take_take, List.take_of_length_le (l := (List.replicate n zv.cells.toList).flatten) (by rw [hlen]; omega), List.take_drop, List.take_take]
          rw [show off + n * s' + (cs.length - (off + n * s')) = cs.length by omega, Nat.min_comm]
        rw [e2]
        exact hsp
  · cases hv
theorem op_sound (hc : CallS P σ w0 call) {sh : ASh} {op : AOp} {fr : Fr} {h h' : AH} {v : AV} {o : Oper} {a : Act} {w : World} {K : Act → World → Prop} {Q : Exit → Act → World → Prop} (hok : okOp P σ o.op op = true) (hf : FrR σ w0 ρ fr a.tmps) (hr : HR σ w0 ρ h w) (hv : aopV call sh op fr h = some (v, h'))
    (hK : ∀ ρ' u w', ρ.le ρ' → VR σ w0 ρ' v u → HR σ w0 ρ' h' w' → K (a.put o.dst u) w') : Oper.wp P o a w K Q := by
  by_cases hq : quiet op = true
  · obtain ⟨rfl, u, h1, h2⟩ := quiet_sound hq hok hf hr hv
    exact value_wp h1 (hK ρ u w ρ.le_refl h2 hr)
  unfold aopV at hv
  cases op with
  | new cs =>
    cases ho : o.op <;> rw [ho] at hok <;> simp only [okOp] at hok <;> try (cases hok; done)
    rename_i t
    obtain ⟨zv, hzr, hzl⟩ := zeroOk_run (P := P) (σ := σ) (w0 := w0) hok
    cases hv
    have hn := hr.newL (c := zv.cells) t (hzl ρ)
    refine value_wp (u := .pointer (some ⟨w.heap.size, 0, none⟩)) (w' := w.alloc (.cells zv.cells t)) ?_ (hK _ _ _ (Mp.le_add (hr.fresh _ (Nat.le_refl _))) (.ptr _ _ _ _ Mp.add_self) hn)
    simp [execOp, ho, Instr.alloc, hzr, newVar, newRow]
  | box y =>
    cases ho : o.op <;> rw [ho] at hok <;> simp only [okOp] at hok <;> try (cases hok; done)
    rename_i t x
    obtain ⟨cs, hcs, hv⟩ := Option.bind_eq_some_iff.1 (show (cellsOf (ev fr y)).bind (fun cs => pNew h cs fun b h' => some (AV.ptr b 0, h')) = some (v, h') from hv)
    cases hv
    have hn := hr.newL (c := (a.eval x).cells) t (cellsOf_VL (okO_VR hok hf) hcs)
    refine value_wp (u := .pointer (some ⟨w.heap.size, 0, none⟩)) (w' := w.alloc (.cells (a.eval x).cells t)) ?_ (hK _ _ _ (Mp.le_add (hr.fresh _ (Nat.le_refl _))) (.ptr _ _ _ _ Mp.add_self) hn)
    simp [execOp, ho, Instr.box, newVar, newRow]
  | buildS n s z qs =>
    cases ho : o.op <;> rw [ho] at hok <;> simp only [okOp] at hok <;> try (cases hok; done)
    rename_i t len ps
    simp only [Bool.and_eq_true] at hok
    obtain ⟨h1, h2⟩ := hok
    obtain rfl := Nat.eq_of_beq_eq_true h1
    split at h2
    case h_2 => cases h2
    rename_i e he
    simp only [Bool.and_eq_true] at h2
    obtain ⟨⟨⟨h3, h4⟩, h5⟩, h6⟩ := h2
    split at h5
    case h_2 => cases h5
    rename_i ie hie
    split at h5
    case h_2 => cases h5
    rename_i zv hzv
    simp only [Bool.and_eq_true] at h5
    obtain ⟨h5, h7⟩ := h5
    have hsz := Nat.eq_of_beq_eq_true h5
    have hs : ie.size = s := by
      have := isNat_eq h3
      unfold szOf at this
      rw [hie] at this
      simpa using this
    have hund := elemOfS_und he
    obtain ⟨cs, hcs, hv⟩ := Option.bind_eq_some_iff.1 (show (fillA z (partsOf fr qs)).bind (fun cs => pNew h cs fun b h' => some (AV.sl b 0 n s, h')) = some (v, h') from hv)
    cases hv
    have hparts : (ps.map fun (i, x) => (i, a.eval x)).toList = ps.toList.map fun p => (p.1, a.eval p.2) := by rw [Array.toList_map]
    have hbase : VL σ w0 ρ z ((Array.range (n * s)).map (fun i => zv.cells[i % zv.cells.size]!)).toList := by
      rw [rep_cells zv.cells n s hsz]
      exact okVs_VL h7
    obtain ⟨vs', h8, h9⟩ := fill_sound hf h6 hbase hcs
    have hcl : cs.length = vs'.size := by rw [← Array.length_toList]; exact h9.1.symm
    have hfl : vs'.size = n * s := by
      have hfa : ∀ (qs : List (Nat × Nat × AV)) (z cs : List AV), fillA z qs = some cs → cs.length = z.length := by
        intro qs
        induction qs with
        | nil => intro z cs h; cases h; rfl
        | cons q qs ih =>
          intro z cs h
          obtain ⟨o, m, y⟩ := q
          obtain ⟨us, hus, h⟩ := Option.bind_eq_some_iff.1 (show ((cellsOf y).bind fun us => if us.length = m ∧ o + m ≤ z.length then fillA (splice z o us) qs else none) = some cs from h)
          split at h
          · rename_i hc
            rw [ih _ _ h]
            unfold splice
            simp only [List.length_append, List.length_take, List.length_drop, hc.1]
            omega
          · cases h
      have := hfa _ _ _ hcs
      have h10 := hbase.1
      rw [Array.length_toList, Array.size_map, Array.size_range] at h10
      omega
    have hn := hr.newL (c := vs') e h9
    refine value_wp (u := .slice (some ⟨w.heap.size, 0, none⟩) n n) (w' := w.alloc (.cells vs' e)) ?_ (hK _ _ _ (Mp.le_add (hr.fresh _ (Nat.le_refl _))) (.sl _ _ _ _ _ _ _ _ Mp.add_self (Nat.le_refl _) (.inl ⟨rfl, by omega⟩)) hn)
    have hsmall : ¬ n * s > 2 ^ 24 := by have := Nat.le_of_ble_eq_true h4; omega
    have hrun : (Instr.buildSlice t n (ps.map fun (i, x) => (i, a.eval x))).run P w = .ok (.slice (some ⟨w.heap.size, 0, none⟩) n n) (w.alloc (.cells vs' e)) := by
      by_cases hpos : n * s = 0
      · have h8' : Instr.fill (fun i => some (i * s, s)) #[] (ps.toList.map fun p => (p.1, a.eval p.2)) = some vs' := by
          have : (Array.range (n * s)).map (fun i => zv.cells[i % zv.cells.size]!) = #[] := by rw [hpos]; simp [Array.range_zero']
          rw [this] at h8
          exact h8
        have hsz2 := run_sizeOf (P := P) (isNat_eq h3) w
        simp only [Instr.buildSlice, Sem.run_bind, run_underlying hund, Result.andThen_ok, hsz2, hpos, if_true]
        simp [h8', newRow, Array.range_zero']
      · exact run_buildSlice (P := P) w t e n _ vs' ie zv hund hie hzv (by rw [hs]; exact hsmall) (by rw [hs]; exact hpos) (by rw [hs, hparts]; exact h8)
    simp [execOp, ho, hrun]
  | store n y z =>
    cases ho : o.op <;> rw [ho] at hok <;> simp only [okOp] at hok <;> try (cases hok; done)
    simp only [Bool.and_eq_true] at hok
    obtain ⟨⟨h1, h2⟩, h3⟩ := hok
    obtain ⟨h1', hst, hv⟩ := Option.bind_eq_some_iff.1 (show (aSt h n (ev fr y) (ev fr z)).bind (fun h' => some (AV.junk, h')) = some (v, h') from hv)
    cases hv
    obtain ⟨w', hw, hh⟩ := store_wp (P := P) hr (okO_VR h2 hf) (okO_VR h3 hf) (isNat_eq h1) hst
    exact skip_wp (w' := w') (by simp [execOp, ho, hw]) (hK ρ undef w' ρ.le_refl (.junk _) hh)
  | mkS s b z y =>
    cases ho : o.op <;> rw [ho] at hok <;> simp only [okOp] at hok <;> try (cases hok; done)
    rename_i t l c
    simp only [Bool.and_eq_true] at hok
    obtain ⟨⟨h1, h2⟩, h3⟩ := hok
    split at h1
    case h_2 => cases h1
    rename_i e he
    simp only [Bool.and_eq_true] at h1
    obtain ⟨⟨⟨h4, h5⟩, h6⟩, h7⟩ := h1
    obtain ⟨k, n, hn, hv⟩ := asI_some hv
    obtain ⟨p, hp, hv⟩ := Option.bind_eq_some_iff.1 (show (aMkS h s b z n).bind (fun p => some (p.1, p.2)) = some (v, h') from hv)
    cases hv
    unfold aMkS at hp
    split at hp
    case isFalse => cases hp
    rename_i hroom
    cases hp
    obtain ⟨hn0, hroom⟩ := hroom
    obtain ⟨hr1, hr2⟩ := hroom.le
    obtain ⟨m, rfl⟩ : ∃ m : Nat, n = m := ⟨n.toNat, by omega⟩
    rw [Int.toNat_natCast] at hr1 hr2
    obtain ⟨i, hi, hsz⟩ := szOf_info (isNat_eq h4)
    have hby : i.bytes = b := by
      have := isNat_eq h5
      unfold byOf at this
      rw [hi] at this
      simpa using this
    have hz6 := h6
    unfold zeroOk at hz6
    rw [hi] at hz6
    dsimp only at hz6
    split at hz6
    case h_2 => cases hz6
    rename_i zv hzv
    have hzl : VL σ w0 ρ z zv.cells.toList := okVs_VL hz6
    have hzn : zv.cells.size = s := by rw [← Array.length_toList, hzl.1]; exact Nat.eq_of_beq_eq_true h7
    have hl' := okO_VR h2 hf
    rw [hn] at hl'
    have hc' := okO_VR h3 hf
    rw [hn] at hc'
    have hb1 : i.bytes * m ≤ 281474976710656 := Nat.le_trans (by rw [hby, Nat.mul_comm]; exact hr2) (by decide)
    have hb2 : (i.bytes : Int) * (m : Int) ≤ 281474976710656 := by rw [← Int.natCast_mul]; exact Int.ofNat_le.2 hb1
    have hrun := run_make (P := P) w t e i zv (elemOfS_und he) hi hzv k k (m : Int) (m : Int) (by omega) (Int.le_refl _) hb2 (by omega)
    rw [Int.toNat_natCast, hsz] at hrun
    have hmade : VL σ w0 ρ (List.replicate m z).flatten (madeCells zv.cells (m * s)).toList := by
      unfold madeCells
      rw [rep_cells zv.cells m s hzn]
      exact VL.rep hzl m
    have hnw := hr.newL (c := madeCells zv.cells (m * s)) e hmade
    refine value_wp (u := .slice (some ⟨w.heap.size, 0, none⟩) m m) (w' := w.alloc (.cells (madeCells zv.cells (m * s)) e)) ?_ (hK _ _ _ (Mp.le_add (hr.fresh _ (Nat.le_refl _))) ?_ hnw)
    · simp [execOp, ho, VR_int hl', VR_int hc', hrun]
    · rw [Int.toNat_natCast]
      exact .sl _ _ _ _ _ _ _ _ Mp.add_self (Nat.le_refl _) (.inl ⟨rfl, by rw [size_madeCells]; omega⟩)
  | call f ys =>
    cases ho : o.op <;> rw [ho] at hok <;> simp only [okOp] at hok <;> try (cases hok; done)
    split at hok
    case h_2 => cases hok
    rename_i hcall
    cases hcall
    rename_i g xs ts
    simp only [Bool.and_eq_true] at hok
    obtain ⟨h1, h2⟩ := hok
    obtain rfl := Nat.eq_of_beq_eq_true h1
    refine call_sound hc (args := xs.map a.eval) hr (by rw [Array.toList_map]; exact okOs_VA hf h2) hv (fun hfn => ?_) hK
    have hcon : a.eval (.func (σ f)) = .func (.func (σ f)) #[] #[] := rfl
    have := okFn_run hfn (xs.map a.eval) w
    simp [execOp, ho, resolve, hcon, Deferred.ofValue, invoke, this]
  | callv y ys =>
    cases ho : o.op <;> rw [ho] at hok <;> simp only [okOp] at hok <;> try (cases hok; done)
    split at hok
    case h_2 => cases hok
    rename_i hcall
    cases hcall
    rename_i x xs ts
    simp only [Bool.and_eq_true] at hok
    obtain ⟨h1, h2⟩ := hok
    have hx := okO_VR h1 hf
    have hv : (pFun (ev fr y) fun f cs => match (generalizing := false) sh with
      | .any => pCall call f (evs fr ys ++ cs) h fun v h' => some (v, h')
      | .int k => pCallI call k f (evs fr ys ++ cs) h fun n h' => some (.int k n, h')
      | .bool => pCallB call f (evs fr ys ++ cs) h fun b h' => some (.bool b, h')) = some (v, h') := hv
    unfold pFun at hv
    split at hv
    case h_2 => cases hv
    rename_i f cs e
    rw [e] at hx
    generalize hu : a.eval x = u at hx
    cases hx with
    | fn _ _ us h3 h4 =>
      have hl := okOs_VA hf h2
      refine call_sound hc (args := xs.map a.eval ++ us) hr ?_ hv (fun hfn => ?_) hK
      · rw [Array.toList_append, Array.toList_map]
        have e5 : us.toList.length = cs.length := by rw [← h3]; exact Array.length_toList
        refine ⟨by rw [List.length_append, List.length_append, hl.1, e5], fun j x v hx hv => ?_⟩
        rcases Nat.lt_or_ge j (evs fr ys).length with hj | hj
        · rw [List.getElem?_append_left hj] at hx
          rw [List.getElem?_append_left (by rw [hl.1]; exact hj)] at hv
          exact hl.2 j x v hx hv
        · rw [List.getElem?_append_right hj] at hx
          rw [List.getElem?_append_right (by rw [hl.1]; exact hj), hl.1] at hv
          exact h4 _ x v hx (by simpa using hv)
      · have := okFn_run hfn (xs.map a.eval ++ us) w
        simp [execOp, ho, resolve, hu, Deferred.ofValue, invoke, this]
  | app s b y z =>
    cases ho : o.op <;> rw [ho] at hok <;> simp only [okOp] at hok <;> try (cases hok; done)
    split at hok
    case h_2 => cases hok
    rename_i hcb
    obtain rfl := callB_eq hcb
    simp only [Bool.and_eq_true] at hok
    obtain ⟨⟨⟨h1, h2⟩, h3⟩, h4⟩ := hok
    obtain rfl := Nat.eq_of_beq_eq_true h1
    split at h4
    case h_2 => cases h4
    rename_i e he
    simp only [Bool.and_eq_true] at h4
    obtain ⟨⟨h5, h6⟩, h7⟩ := h4
    split at h7
    case h_2 => cases h7
    rename_i i hi
    split at h7
    case h_2 => cases h7
    rename_i zv hzv
    have hs : i.size = s := by
      have := isNat_eq h5
      unfold szOf at this
      rw [hi] at this
      simpa using this
    have hb : i.bytes = b := by
      have := isNat_eq h6
      unfold byOf at this
      rw [hi] at this
      simpa using this
    obtain ⟨p, hp, hv⟩ := Option.bind_eq_some_iff.1 (show (aApp h s b (ev fr y) (ev fr z)).bind (fun p => some (p.1, p.2)) = some (v, h') from hv)
    cases hv
    obtain ⟨u, w', ρ', q1, q2, q3, q4⟩ := app_wp (P := P) (ty := o.type) hr (okO_VR h2 hf) (okO_VR h3 hf) (elemOfS_und he) hi hs hb hzv (Nat.eq_of_beq_eq_true h7) hp
    exact value_wp (u := u) (w' := w') (by simp [execOp, ho, resolve, invoke, builtin, q1]) (hK ρ' u w' q2 q3 q4)
  | clear s z y =>
    cases ho : o.op <;> rw [ho] at hok <;> simp only [okOp] at hok <;> try (cases hok; done)
    split at hok
    case h_2 => cases hok
    rename_i hcb
    obtain rfl := callB_eq hcb
    simp only [Bool.and_eq_true] at hok
    obtain ⟨h1, h2⟩ := hok
    split at h2
    case h_2 => cases h2
    rename_i e he
    simp only [Bool.and_eq_true] at h2
    obtain ⟨p, hp, hv⟩ := Option.bind_eq_some_iff.1 (show (aClear h s z (ev fr y)).bind (fun h' => some (AV.tup [], h')) = some (v, h') from hv)
    cases hv
    obtain ⟨w', q1, q2⟩ := clear_wp (P := P) (ty := o.type) hr (okO_VR h1 hf) (elemOfS_und he) h2.1 (Nat.eq_of_beq_eq_true h2.2) hp
    exact value_wp (u := .tuple #[]) (w' := w') (by simp [execOp, ho, resolve, invoke, builtin, q1]) (hK ρ _ w' ρ.le_refl (.tup [] #[] rfl (fun j a v h => by simp at h)) q2)
  | copy s x y => cases hok
  | _ => exact absurd rfl hq
end Go.AM
