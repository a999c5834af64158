/- What l7Path and the reference's ShortestPath compute; no condition beyond the lists and lengths that are named. -/
import Derived.Test.YtefabcnifbnehaaDoorWays3
import Derived.Test.YtefabcnifbnehaaDoorPathData
namespace Go.Rd
open Go.Sort Go.RowKit
theorem leastO_zero (l : List Fmt) (day u t : Int) : leastO l day 0 u t = if u = t then some [u] else none := by
  by_cases h : u = t
  · rw [if_pos h]; exact leastO_some ⟨⟨rfl, h⟩, fun q hq => by obtain ⟨rfl, _⟩ := hq; exact Lex.refl _⟩
  · rw [if_neg h]; exact leastO_none fun ⟨q, hq⟩ => h hq.2
theorem leastO_cons {l : List Fmt} (hr : RiseI (l.map (·.id))) {day : Int} {n k : Nat} {u t : Int} {f : Fmt} {q : List Int} (hf : l[k]? = some f) (h1 : day ≤ f.un) (h2 : f.rd.contains u = true) (hq : leastO l day n f.id t = some q)
    (hn : ∀ (j : Nat) (g : Fmt), j < k → l[j]? = some g → day ≤ g.un → g.rd.contains u = true → leastO l day n g.id t = none) : leastO l day (n + 1) u t = some (u :: q) :=
  leastO_some (least_cons hr hf h1 h2 (leastO_of hq) fun j g hj hg a b => leastO_not hr (hn j g hj hg a b))
theorem leastO_end {l : List Fmt} (hr : RiseI (l.map (·.id))) {day : Int} {n : Nat} {u t : Int}
    (hn : ∀ (j : Nat) (g : Fmt), l[j]? = some g → day ≤ g.un → g.rd.contains u = true → leastO l day n g.id t = none) : leastO l day (n + 1) u t = none :=
  leastO_none fun ⟨p, v, q, h3, h4, _⟩ => by
    obtain ⟨j, g, hj, rfl, h5, h6⟩ := lead_at h3
    exact leastO_not hr (hn j g hj h5 h6) ⟨q, h4⟩
/-- The call returns whether there is one, and where there is, a slice that reads as it. -/
def RetPath (w : World) (o : Option (List Int)) (e : Ending) (w' : World) : Prop :=
  ∃ v', e = .returned (.tuple #[v', .bool o.isSome]) ∧ (∀ p, o = some p → Reads w' 1 v' p.length (p.flatMap encI)) ∧ Ext w w'
theorem own_one (w : World) (e : TypeId) (x : Int) : (w.alloc (.cells #[.int .i64 x] e)).ownsRow w.heap.size e 1 (.slice (some ⟨w.heap.size, 0, none⟩) 1 1) 1 (encI x) :=
  ⟨rfl, .inr ⟨w.heap.size, 1, #[.int .i64 x], rfl, Nat.le_refl _, heap_alloc_new w _, Nat.le_refl _, by unfold maxLen; omega, rfl, rfl⟩⟩
theorem path_no {l : List Fmt} {u t day : Int} (hid : 0 ≤ atF l u) (h : (waysL l u day).contains t = false) : pathR l u t day = none := by
  unfold pathR
  split
  · refine shortO_none fun n hn => ?_
    obtain ⟨p, hp⟩ := hn
    have : t ∈ waysL l u day := (waysL_mem hid).2 (wayTo_path .start hp)
    rw [List.contains_iff_mem.2 this] at h
    cases h
  · rfl
theorem path_yes {l : List Fmt} {u t day : Int} (hid : 0 ≤ atF l u) (hw : waysOk l u day = true) (h : (waysL l u day).contains t = true) : pathR l u t day = shortO l day u t := by
  refine pathR_yes ?_
  rw [pathOk, hw, decide_eq_true (ways_id hid (List.contains_iff_mem.1 h))]; rfl
theorem path_ex {l : List Fmt} {u t day : Int} (hid : 0 ≤ atF l u) (h : (waysL l u day).contains t = true) (hn : ∀ j, j < (waysL l u day).length → ¬ HasN l day j u t) : False := by
  obtain ⟨n, hh⟩ := path_wayTo ((waysL_mem hid).1 (List.contains_iff_mem.1 h))
  obtain ⟨m, _, h2, h3⟩ := short_ex n hh
  exact hn m (short_len hid h2 h3) h2
end Go.Rd
namespace Go.Proofs.YtefabcnifbnehaaDoor
open Go.RowKit Go.Sort Go.Rd
set_option maxHeartbeats 4000000 in
theorem l7Path_ok (l : List Fmt) (t day : Int) (hr : RiseI (l.map (·.id))) (hl : l.length ≤ 1048576) (hll : ∀ p ∈ l, p.rd.length ≤ 1048576) : ∀ (n : Nat) (u : Int) (v : Value) (w : World), n ≤ 1048576 → Fmt.Rd w v l →
    Calls Tryd.prog 69 #[v, .int .i64 u, .int .i64 t, .int .i64 day, .int .i64 (n : Int)] w (RetPath w (leastO l day n u t)) := by
  intro n
  induction n with
  | zero =>
    intro u v w _ hv
    rw [leastO_zero, show (((0 : Nat) : Int)) = 0 from rfl]
    clear hr hll
    by_cases h : u = t
    · subst h
      rw [if_pos rfl]
      go_enter Tryd.func69, Tryd.ntmps69
      go_wp2
      go_ret2
      exact ⟨_, rfl, fun p hp => by cases hp; exact reads_one' (by simp), (Ext.refl w).alloc _⟩
    · rw [if_neg h]
      have hb : (u == t) = false := by simpa using h
      go_enter Tryd.func69, Tryd.ntmps69
      go_wp2
      go_ret2
      exact ⟨_, rfl, (fun p hp => by cases hp), (Ext.refl w).alloc _⟩
  | succ n ih =>
    intro u v w hn hv
    have HIH := Lib.hid ih
    have HLL := Lib.hid hll
    obtain ⟨N, hN⟩ : ∃ N, leastO l day (n + 1) u t = N := ⟨_, rfl⟩
    have HF := Lib.hid (fun (k : Nat) (f : Fmt) (q : List Int) hf h1 h2 hq hh => hN.symm.trans (leastO_cons (n := n) (t := t) hr (k := k) (f := f) (q := q) hf h1 h2 hq hh))
    have HE := Lib.hid (fun hh => hN.symm.trans (leastO_end (day := day) (n := n) (u := u) (t := t) hr hh))
    have HQL := Lib.hid (fun (f : Fmt) (q : List Int) (h : leastO l day n f.id t = some q) => (leastO_of h).1.len)
    rw [hN]
    clear hN hr ih hll
    obtain ⟨m, hm⟩ : ∃ m : Int, ((n + 1 : Nat) : Int) = m := ⟨_, rfl⟩
    rw [hm]
    have n3 : (m == 0) = false := by simp; omega
    have n2 : IntKind.i64.wrap (m - 1) = n := by rw [show m - 1 = (n : Int) by omega]; exact IntWalk.i64_in _ (by omega)
    clear hm
    obtain ⟨a, cap, rfl⟩ := hv.shape
    go_enter Tryd.func69, Tryd.ntmps69
    go_wp2
    go_loopw [12] (fun i wr => ∃ k : Nat, k ≤ l.length ∧ i = .int .i64 k ∧ Hid (∀ (j : Nat) (g : Fmt), j < k → l[j]? = some g → day ≤ g.un → g.rd.contains u = true → leastO l day n g.id t = none) ∧ Ext w wr) (fun i _ => l.length - (intOf i).toNat)
    case atStart => exact ⟨0, Nat.zero_le _, rfl, Lib.hid fun j g h => by omega, Ext.refl _⟩
    case round =>
      obtain ⟨k, hk, rfl, HALL, hE⟩ := hrel
      by_cases hlt : k < l.length
      · obtain ⟨b, off, rfl⟩ := Fmt.Rd.addr hv (by omega)
        obtain ⟨f, hx⟩ := get_of_lt hlt
        obtain ⟨ca, cc, c0, c1, c2, c3, hat⟩ := Fmt.Rd.cells (hv.mono hE) hx
        have hfl := HLL.out f (List.mem_of_getElem? hx)
        have HX := Lib.hid hx
        have HNX : Hid (∀ (P : Prop), (day ≤ f.un → f.rd.contains u = true → leastO l day n f.id t = none) → ∀ (j : Nat) (g : Fmt), j < k + 1 → l[j]? = some g → day ≤ g.un → g.rd.contains u = true → leastO l day n g.id t = none) := Lib.hid fun _ hh j g hj hg => by
          by_cases hjk : j < k
          · exact HALL.out j g hjk hg
          · obtain rfl : j = k := by omega
            have := hg.symm.trans HX.out
            simp only [Option.some.injEq] at this
            subst this
            exact hh
        clear hx
        by_cases hu : f.un < day
        case pos =>
          have HN2 := Lib.hid (HNX.out True fun h => by omega)
          go_wp2
          go_roundw
          case rel => exact ⟨k + 1, by omega, by go_num, HN2, hE⟩
          case measure => simp [intOf]; omega
        have HU : Hid (day ≤ f.un) := Lib.hid (by omega)
        go_wp2_with fail
        refine (l1Has_ok f.rd u _ _ hat hfl).mono ?_
        rintro e w' ⟨rfl, rfl⟩
        cases hc : f.rd.contains u
        case false =>
          have HN2 := Lib.hid (HNX.out True fun _ h => by rw [hc] at h; cases h)
          clear hc
          go_wp2
          go_roundw
          case rel => exact ⟨k + 1, by omega, by go_num, HN2, hE⟩
          case measure => simp [intOf]; omega
        have HC := Lib.hid hc
        clear hc
        go_wp2_with fail
        refine (HIH.out f.id _ _ (by omega) (hv.mono hE)).mono ?_
        rintro e w3 ⟨v3, rfl, o3, E3⟩
        have hE3 := Ext.trans hE E3
        cases ho : leastO l day n f.id t with
        | none =>
          have HN2 := Lib.hid (HNX.out True fun _ _ => ho)
          clear o3 ho
          go_wp2
          go_roundw
          case rel => exact ⟨k + 1, by omega, by go_num, HN2, hE3⟩
          case measure => simp [intOf]; omega
        | some q =>
          have HNQ := Lib.hid (HF.out k f q HX.out HU.out HC.out ho HALL.out)
          have HQ := Lib.hid (HQL.out f q ho)
          have o4 := o3 q ho
          clear o3 ho
          obtain ⟨a3, c3', rfl⟩ := o4.shape
          obtain ⟨_, b3, off3, rfl, _⟩ := o4.at (by have := HQ.out; omega)
          have HD := Lib.hid (drop_cells o4 rfl 0 ⟨b3, off3, none⟩ (fun _ => by rw [Nat.add_zero]))
          clear c0 c1 c2 c3
          go_wp2_with (at_builtin; refine wpl_appendN w3 _ rfl _ _ 30 rfl 3 _ 1 8 Tryd.underlying30 Tryd.infoInt rfl (by decide) (by decide) _ 1 _ ((Ext.refl w3).alloc _) (own_one w3 _ u) ⟨b3, off3, none⟩ q.length _ (q.flatMap Go.Rd.encI) rfl rfl (by simp [flat_length Go.Rd.encI 1 Go.Rd.encI_len]) (HD.out _ ((Ext.refl w3).alloc _)) (flat_one Go.Rd.encI_one _) (by have := HQ.out; omega) ?_)
          intro v6 w6 o6 E6
          have E7 := Ext.trans hE3 E6
          go_wp2
          go_ret2
          rw [HNQ.out]
          exact ⟨v6, rfl, (fun p hp => by cases hp; rw [List.flatMap_cons, List.length_cons, Nat.add_comm q.length 1]; exact Reads.of_owns o6), E7⟩
      · have HNN := Lib.hid (HE.out fun j g hg => HALL.out j g (by have := (List.getElem?_eq_some_iff.1 hg).1; omega) hg)
        go_wp2
        go_ret2
        rw [HNN.out]
        exact ⟨_, rfl, (fun p hp => by cases hp), hE.alloc _⟩
set_option maxHeartbeats 4000000 in
theorem specShortestPath_ok (l : List Fmt) (u t day : Int) (v : Value) (w : World) (hv : Fmt.Rd w v l) (hl : l.length ≤ 1048576) (hll : ∀ p ∈ l, p.rd.length ≤ 1048576) (hnl : ∀ p ∈ l, p.na.length ≤ maxLen) :
    Calls Tryd.prog 35 #[v, .int .i64 u, .int .i64 t, .int .i64 day] w (RetReadB w 1 ((pathR l u t day).getD []).length (((pathR l u t day).getD []).flatMap Go.Rd.encI) (pathR l u t day).isSome) := by
  obtain ⟨ok, hok⟩ : ∃ b, waysOk l u day = b := ⟨_, rfl⟩
  have HOK := Lib.hid hok
  have HWY := Lib.hid (fun h => waysR_yes (l := l) (id := u) (day := day) (hok.trans h))
  obtain ⟨N, hN⟩ : ∃ N, pathR l u t day = N := ⟨_, rfl⟩
  have HN := Lib.hid hN
  have HLL := Lib.hid hll
  rw [hN]
  clear hN
  go_enter Tryd.func35, Tryd.ntmps35
  go_wp2_with fail
  refine (specWaysTo_ok l u day _ _ hv hl hll hnl).mono ?_
  rintro e w1 ⟨v1, rfl, o1, E1⟩
  rw [hok]
  clear hok hll hnl
  cases ok
  case false =>
    obtain rfl : N = none := by rw [← HN.out]; exact pathR_no (by rw [pathOk, HOK.out]; rfl)
    go_wp2
    go_ret2
    exact ⟨_, rfl, (OutR.empty w w 3 1 _).reads.mono (E1.alloc _), E1.alloc _⟩
  obtain ⟨hg, h0⟩ := waysOk_parts HOK.out
  rw [HWY.out rfl] at o1
  have hwl : (waysL l u day).length ≤ 1048576 := Nat.le_trans (waysL_length l u day) hl
  obtain ⟨W, hW⟩ : ∃ W, waysL l u day = W := ⟨_, rfl⟩
  have HW := Lib.hid hW
  have HR : Hid (RiseI (l.map (·.id))) := Lib.hid (goodF_rise hg)
  rw [hW] at o1 hwl
  clear hW hg
  go_wp2_with fail
  refine (l1Has_ok W t _ _ o1 hwl).mono ?_
  rintro e w' ⟨rfl, rfl⟩
  cases hc : W.contains t
  case false =>
    obtain rfl : N = none := by rw [← HN.out]; exact path_no h0 (by rw [HW.out]; exact hc)
    go_wp2
    go_ret2
    exact ⟨_, rfl, (OutR.empty w w 3 1 _).reads.mono (E1.alloc _), E1.alloc _⟩
  have HP : Hid (N = shortO l day u t) := Lib.hid (by rw [← HN.out]; exact path_yes h0 HOK.out (by rw [HW.out]; exact hc))
  have HX : Hid ((∀ j, j < W.length → ¬ HasN l day j u t) → False) := Lib.hid (by have := path_ex (l := l) (u := u) (t := t) (day := day) h0; rw [HW.out] at this; exact this hc)
  clear hc h0
  obtain ⟨a1, cap1, rfl⟩ := o1.shape
  go_wp2
  go_loopw [12] (fun i wr => ∃ k : Nat, k ≤ W.length ∧ i = .int .i64 k ∧ Hid (∀ j, j < k → ¬ HasN l day j u t) ∧ Ext w wr) (fun i _ => W.length - (intOf i).toNat)
  case atStart => exact ⟨0, Nat.zero_le _, rfl, Lib.hid fun j h => by omega, E1⟩
  case round =>
    obtain ⟨k, hk, rfl, HALL, hE⟩ := hrel
    by_cases hlt : k < W.length
    · go_wp2_with fail
      refine (l7Path_ok l t day HR.out hl HLL.out k u _ _ (by omega) (hv.mono hE)).mono ?_
      rintro e w3 ⟨v3, rfl, o3, E3⟩
      have hE3 := Ext.trans hE E3
      cases ho : leastO l day k u t with
      | none =>
        have HN2 : Hid (∀ j, j < k + 1 → ¬ HasN l day j u t) := Lib.hid fun j hj => by
          by_cases hjk : j < k
          · exact HALL.out j hjk
          · obtain rfl : j = k := by omega
            exact leastO_not HR.out ho
        clear o3 ho
        go_wp2
        go_roundw
        case rel => exact ⟨k + 1, by omega, by go_num, HN2, hE3⟩
        case measure => simp [intOf]; omega
      | some q =>
        have HNQ : Hid (N = some q) := Lib.hid (HP.out.trans (shortO_some ⟨k, leastO_of ho, HALL.out⟩))
        have o4 := o3 q ho
        clear o3 ho
        go_wp2
        go_ret2
        rw [HNQ.out]
        exact ⟨_, rfl, o4, hE3⟩
    · exact (HX.out fun j hj => HALL.out j (by omega)).elim
end Go.Proofs.YtefabcnifbnehaaDoor
