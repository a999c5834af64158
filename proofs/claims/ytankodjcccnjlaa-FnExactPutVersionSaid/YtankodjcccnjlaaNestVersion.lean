/- What the law's own helpers for Version compute: sizes, copies, comparisons, marks; no condition beyond the lengths that are named. -/
import Derived.Test.YtankodjcccnjlaaRows
import Derived.Test.YtankodjcccnjlaaNestData
import Derived.Test.YtankodjcccnjlaaNestBase
import Derived.Test.YtankodjcccnjlaaFlatRule
namespace Go.Proofs.Ytankodjcccnjlaa
open Go.RowKit Go.Sort Go.Rd

def RetVersion (w : World) (r : Ver) (e : Ending) (w' : World) : Prop :=
  ∃ sv', e = .returned (.agg #[.int .i64 r.fr, sv']) ∧ w'.ownsRow w.heap.size 48 4 sv' r.rs.length (r.rs.flatMap Rul.enc) ∧ Ext w w'
set_option maxHeartbeats 1000000 in
theorem toVersion_ok (r : Ver) (sv : Value) (w : World) (hv : Ver.At w (r, sv)) (hl : r.rs.length ≤ 1048576) :
    Calls Try.prog 8 #[.agg #[.int .i64 r.fr, sv]] w (RetVersion w r) := by
  obtain ⟨a, cap, hs⟩ := Reads.shape hv
  simp only at hs
  subst hs
  go_enter Try.func8, Try.ntmps8
  go_wp2_with fail
  refine (toRuleS_ok r.rs _ _ (Reads.mono ?hE hv) hl).mono ?_
  case hE => repeat (first | exact Ext.refl _ | refine Ext.alloc ?_ _ | refine Ext.setCell ?_ (by simp) _)
  rintro e w1 ⟨v1, rfl, o1, E1⟩
  have q0 : w1.cell? ⟨w.heap.size + 2, 0, none⟩ = some (.int .i64 r.fr) := E1.cell (by rw [World.cell?_alloc_at (hn := by simp)]; rfl)
  have q1 : w1.cell? ⟨w.heap.size + 2, 1, none⟩ = some (.slice none 0 0) := E1.cell (by rw [World.cell?_alloc_at (hn := by simp)]; rfl)
  have t0 : w1.cell? ⟨w.heap.size + 1, 0, none⟩ = some (.int .i64 0) := E1.cell (by rw [World.cell?_alloc_past (hn := by simp), World.cell?_alloc_at (hn := by simp)]; rfl)
  have t1 : w1.cell? ⟨w.heap.size + 1, 1, none⟩ = some (.slice none 0 0) := E1.cell (by rw [World.cell?_alloc_past (hn := by simp), World.cell?_alloc_at (hn := by simp)]; rfl)
  have f0 : w1.frozen? ⟨w.heap.size + 2, 1, none⟩ = false := by rw [E1.frozen (u := .slice none 0 0) (by rw [World.cell?_alloc_at (hn := by simp)]; rfl)]; exact World.frozen?_alloc_at _ _ _ _ (by simp)
  have g0 : w1.frozen? ⟨w.heap.size + 1, 0, none⟩ = false := by rw [E1.frozen (u := .int .i64 0) (by rw [World.cell?_alloc_past (hn := by simp), World.cell?_alloc_at (hn := by simp)]; rfl), World.frozen?_alloc_past (hn := by simp)]; exact World.frozen?_alloc_at _ _ _ _ (by simp)
  have g1 : w1.frozen? ⟨w.heap.size + 1, 1, none⟩ = false := by rw [E1.frozen (u := .slice none 0 0) (by rw [World.cell?_alloc_past (hn := by simp), World.cell?_alloc_at (hn := by simp)]; rfl), World.frozen?_alloc_past (hn := by simp)]; exact World.frozen?_alloc_at _ _ _ _ (by simp)
  have E1' : Ext w w1 := Ext.trans (by repeat (first | exact Ext.refl _ | refine Ext.alloc ?_ _ | refine Ext.setCell ?_ (by simp) _)) E1
  have o1' : w1.ownsRow (w.heap.size + 3) 48 4 v1 r.rs.length (r.rs.flatMap Rul.enc) := owns_mono o1 (by simp)
  obtain ⟨a1, c1, rfl⟩ := (Reads.of_owns o1').shape
  clear o1 E1
  go_wp2
  obtain ⟨wf, hwf⟩ : ∃ wf, wf = ((w1.setCell ⟨w.heap.size + 1 + 1, 1, none⟩ (.slice a1 r.rs.length c1)).setCell ⟨w.heap.size + 1, 0, none⟩ (.int .i64 r.fr)).setCell ⟨w.heap.size + 1, 1, none⟩ (.slice a1 r.rs.length c1) := ⟨_, rfl⟩
  have Ef : Ext w wf := by rw [hwf]; exact (Ext.setCell (Ext.setCell (Ext.setCell E1' (by dsimp only; omega) _) (by dsimp only; omega) _) (by dsimp only; omega) _)
  have of : wf.ownsRow w.heap.size 48 4 (.slice a1 r.rs.length c1) r.rs.length (r.rs.flatMap Rul.enc) := by
    rw [hwf]; exact owns_mono (owns_setCell (owns_setCell (owns_setCell o1' (by dsimp only; omega) _) (by dsimp only; omega) _) (by dsimp only; omega) _) (by omega : w.heap.size ≤ w.heap.size + 3)
  have r0 : wf.cell? ⟨w.heap.size + 1, 0, none⟩ = some (.int .i64 r.fr) := by rw [hwf]; simp [go_sem, *]
  have r1 : wf.cell? ⟨w.heap.size + 1, 1, none⟩ = some (.slice a1 r.rs.length c1) := by rw [hwf]; simp [go_sem, *]
  rw [← hwf]
  clear hwf
  refine bodyPost_ret (v := .agg #[.int .i64 r.fr, .slice a1 r.rs.length c1]) (by simp [results, Try.results8, go_sem, *]) rfl ⟨_, rfl, of, Ef⟩

set_option maxHeartbeats 1000000 in
theorem eqVersion_ok (r1 r2 : Ver) (s1 s2 : Value) (w : World) (h1 : Ver.At w (r1, s1)) (h2 : Ver.At w (r2, s2)) (hl : r1.rs.length ≤ 1048576) :
    Calls Try.prog 11 #[.agg #[.int .i64 r1.fr, s1], .agg #[.int .i64 r2.fr, s2]] w fun e w' => e = .returned (.bool (decide (r1 = r2))) ∧ Ext w w' := by
  obtain ⟨ca, cap1, hs1⟩ := Reads.shape h1
  obtain ⟨cb, cap2, hs2⟩ := Reads.shape h2
  simp only at hs1 hs2
  subst hs1
  subst hs2
  rcases r1 with ⟨x0, la⟩
  rcases r2 with ⟨y0, lb⟩
  have E2 : Ext w ((w.alloc (.cells #[.int .i64 x0, .slice ca la.length cap1] 34)).alloc (.cells #[.int .i64 y0, .slice cb lb.length cap2] 34)) := ((Ext.refl w).alloc _).alloc _
  have HC := Lib.hid (eqRuleS_ok la lb _ _ _ (Reads.mono E2 h1) (Reads.mono E2 h2) hl)
  clear E2
  go_enter Try.func11, Try.ntmps11
  go_wp2_with (go_at_call 26; refine HC.out.mono ?_; rintro e w' ⟨rfl, E⟩)
  all_goals go_ret
  all_goals first
    | refine ⟨ret_bool ?_, ((Ext.refl _).alloc _).alloc _⟩
    | refine ⟨ret_bool ?_, Ext.trans (((Ext.refl _).alloc _).alloc _) (by assumption)⟩
  all_goals (simp only [bne_iff_ne, ne_eq, bne_eq_false_iff_eq, Bool.not_eq_true', decide_eq_false_iff_not, Bool.not_eq_false', decide_eq_true_eq] at *; simp [*])
theorem Try.infoIVersion : (Try.prog.info? 34).map (fun i => (i.zero, i.size, i.bytes)) = some (some (.agg #[.int .i64 0, .slice none 0 0]), 2, 32) := by kernel_rfl
def RetVersionS (w : World) (l : List Ver) (e : Ending) (w' : World) : Prop :=
  ∃ (v' : Value) (pl' : List (Ver × Value)), e = .returned v' ∧ pl'.map Prod.fst = l ∧ w'.ownsRow w.heap.size 34 2 v' pl'.length (pl'.flatMap Ver.enc) ∧ (∀ p ∈ pl', w'.ownsRow w.heap.size 48 4 p.2 p.1.rs.length (p.1.rs.flatMap Rul.enc)) ∧ Ext w w'
set_option maxHeartbeats 1000000 in
theorem toVersionS_ok (pl : List (Ver × Value)) (v : Value) (w : World) (hv : Ver.All w v pl) (hl : pl.length ≤ 1048576) (hll : ∀ p ∈ pl, p.1.rs.length ≤ 1048576) :
    Calls Try.prog 7 #[v] w (RetVersionS w (pl.map Prod.fst)) := by
  obtain ⟨hv, hat⟩ := hv
  obtain ⟨a, cap, rfl⟩ := hv.shape
  obtain ⟨n, hn⟩ : ∃ n, n = pl.length := ⟨_, rfl⟩
  rw [← hn] at hv hl ⊢
  have HN := Lib.hid hn
  have HAT := Lib.hid hat
  have HLL := Lib.hid hll
  clear hn hat hll
  have HM := Lib.hid (show n ≤ maxLen by unfold maxLen; omega)
  obtain ⟨i0, hi, hz0, hz1, hz2⟩ := info_parts Try.infoIVersion
  go_enter Try.func7, Try.ntmps7
  go_wp2_with (at_make; refine wpList_make_full _ rfl _ _ 28 rfl w.heap.size 34 i0 (.agg #[.int .i64 0, .slice none 0 0]) 2 Try.underlying28 hi hz0 hz1 _ _ _ _ n rfl rfl rfl rfl ?c1 ?c2 ?c3 ?_)
  case c1 => rw [hz2]; omega
  case c2 => exact HM.out
  case c3 => exact Nat.le_refl _
  intro w1 hown hgrow
  have hE : Ext w w1 := ext_grownBy (Ext.refl w) hgrow (by simp)
  obtain ⟨hg, hfil⟩ := Filled.of_owns hown
  clear hown hgrow
  go_wp2
  go_loopw [4] (fun i wr => ∃ (k : Nat) (ql : List (Ver × Value)), k ≤ n ∧ i = .int .i64 k ∧ ql.length = k ∧ Hid (ql.map Prod.fst = (pl.map Prod.fst).take k) ∧ Filled wr w.heap.size 34 (n * 2) (ql.flatMap Ver.enc) ∧ Hid (∀ p ∈ ql, wr.ownsRow (w.heap.size + 1) 48 4 p.2 p.1.rs.length (p.1.rs.flatMap Rul.enc)) ∧ Ext w wr) (fun i _ => n - (intOf i).toNat)
  case atStart => exact ⟨0, [], Nat.zero_le _, rfl, rfl, Lib.hid (by simp), hfil, Lib.hid (by simp), hE⟩
  case round =>
    obtain ⟨k, ql, hk, rfl, hqk, HQ, hfl, HO, hE⟩ := hrel
    by_cases hlt : k < n
    · have hkl : k < pl.length := by have := HN.out; omega
      have hv1 := hv.mono hE
      rw [HN.out] at hv1
      obtain ⟨b, off, rfl, hc⟩ := Reads.elems Ver.enc_len hv1 (by omega)
      obtain ⟨⟨⟨x0, la⟩, sv⟩, hx⟩ := get_of_lt hkl
      have hmem := List.mem_of_getElem? hx
      have hat := (HAT.out _ hmem).mono hE
      have hln := HLL.out _ hmem
      have c0 := hc k _ hx 0 _ rfl
      have c1 := hc k _ hx 1 _ rfl
      rw [Nat.add_zero] at c0
      have HX := Lib.hid hx
      clear hc hx hv1 hmem
      have gh : w.heap.size < wr.heap.size := by have := hfl.cell (i := 0) (by omega); obtain ⟨u, hu⟩ := this; exact block_lt_of_cell hu
      have hst := Reads.shape hat
      obtain ⟨ca, capa, hst⟩ := hst
      simp only at hst hln
      subst hst
      have HC := toVersion_ok ⟨x0, la⟩ _ wr hat hln
      go_wp2_with fail
      refine HC.mono ?_
      rintro e w2 ⟨sv', rfl, o2, h2⟩
      have hfl2 := hfl.ext h2
      have hE2 := hE.trans h2
      obtain ⟨a2, cap2, rfl⟩ := (Reads.of_owns o2).shape
      obtain ⟨z0, hz0⟩ := hfl2.cell (i := k * 2) (by omega)
      obtain ⟨z1, hz1⟩ := hfl2.cell (i := k * 2 + 1) (by omega)
      have f0 := hfl2.frozen (k * 2)
      have f1 := hfl2.frozen (k * 2 + 1)
      clear c0 c1
      go_wp2
      go_roundw
      case rel =>
        refine ⟨k + 1, ql ++ [(⟨x0, la⟩, .slice a2 la.length cap2)], by omega, by go_num, by simp; omega, Lib.hid ?_, ?_, Lib.hid ?_, ?_⟩
        · rw [List.map_append, HQ.out, List.take_add_one, List.getElem?_map, HX.out]; rfl
        · have e3 : (ql.flatMap Ver.enc).length = k * 2 := by rw [flat_length _ 2 Ver.enc_len, hqk]
          have p0 := hfl2.put' e3 (by omega) (.int .i64 x0)
          have p1 := p0.put' (i := k * 2 + 1) (by simp [e3]) (by omega) (.slice a2 la.length cap2)
          simpa [Ver.enc] using p1
        · intro p hp
          have lift : ∀ {u : Value} {m : Nat} {xs : List Value}, w2.ownsRow (w.heap.size + 1) 48 4 u m xs → ((w2.setCell ⟨w.heap.size, k * 2, none⟩ (.int .i64 x0)).setCell ⟨w.heap.size, k * 2 + 1, none⟩ (.slice a2 la.length cap2)).ownsRow (w.heap.size + 1) 48 4 u m xs := fun h => (owns_setCell (owns_setCell h (by dsimp only; omega) _) (by dsimp only; omega) _)
          rcases List.mem_append.1 hp with hp | hp
          · exact lift (h2.owns (HO.out p hp))
          · have : p = (⟨x0, la⟩, .slice a2 la.length cap2) := by simpa using hp
            subst this
            exact lift (owns_mono o2 (by omega))
        · exact (Ext.setCell (Ext.setCell hE2 (Nat.le_refl _) _) (Nat.le_refl _) _)
      case measure => simp [intOf]; omega
    · go_wp2
      go_ret
      have hkn : k = pl.length := by have := HN.out; omega
      have e3 : (ql.flatMap Ver.enc).length = n * 2 := by rw [flat_length _ 2 Ver.enc_len, hqk, hkn, HN.out]
      have ho := hfl.owns e3 (Nat.le_refl _) HM.out
      have hqn : ql.length = n := by omega
      refine ⟨_, ql, rfl, ?_, by rw [hqn]; exact ho, fun p hp => owns_mono (HO.out p hp) (by omega), hE⟩
      rw [HQ.out, hkn, List.take_of_length_le (by simp)]
set_option maxHeartbeats 1000000 in
theorem eqVersionS_ok (la lb : List (Ver × Value)) (va vb : Value) (w : World) (ha : Ver.All w va la) (hb : Ver.All w vb lb) (hm : la.length ≤ 1048576) (hll : ∀ p ∈ la, p.1.rs.length ≤ 1048576) :
    Calls Try.prog 10 #[va, vb] w fun e w' => e = .returned (.bool (decide (la.map Prod.fst = lb.map Prod.fst))) ∧ Ext w w' := by
  have mixed : Try.prog.follows .mixedOrders = true := by kernel_rfl
  obtain ⟨ha, haa⟩ := ha
  obtain ⟨hb, hba⟩ := hb
  have HAA := Lib.hid haa
  have HBA := Lib.hid hba
  have HLL := Lib.hid hll
  clear haa hba hll
  obtain ⟨a, cap, rfl⟩ := ha.shape
  obtain ⟨b, cap', rfl⟩ := hb.shape
  by_cases hl : la.length = lb.length
  case neg =>
    have hne : ((la.length : Int) != (lb.length : Int)) = true := by rw [bne_iff_ne]; omega
    have HL : Hid (la.map Prod.fst ≠ lb.map Prod.fst) := (fun h => hl (by have := congrArg List.length h; simpa using this) : la.map Prod.fst ≠ lb.map Prod.fst)
    clear hl ha hb hm
    go_enter Try.func10, Try.ntmps10
    go_wp2
    go_ret
    exact ⟨ret_bool (decide_eq_false HL.out).symm, Ext.refl _⟩
  obtain ⟨n, hn⟩ : ∃ n, n = la.length := ⟨_, rfl⟩
  obtain ⟨res0, hres0⟩ : ∃ r, r = decide (la.map Prod.fst = lb.map Prod.fst) := ⟨_, rfl⟩
  rw [← hres0]
  have HR0 := Lib.hid hres0
  clear hres0
  rw [← hn] at ha hm hl
  rw [← hl] at hb
  rw [← hn, ← hl]
  have hne : ((n : Int) != (n : Int)) = false := by simp
  have HA := Lib.hid hn
  have HB := Lib.hid hl
  clear hn hl
  go_enter Try.func10, Try.ntmps10
  go_wp2
  go_loopw [5] (fun i wr => ∃ k : Nat, k ≤ n ∧ i = .int .i64 k ∧ (∀ j, j < k → (la.map Prod.fst)[j]? = (lb.map Prod.fst)[j]?) ∧ Ext w wr) (fun i _ => n - (intOf i).toNat)
  case atStart => exact ⟨0, Nat.zero_le _, rfl, fun j h => by omega, Ext.refl _⟩
  case round =>
    obtain ⟨k, hk, rfl, hall, hE⟩ := hrel
    have HALL := Lib.hid hall
    clear hall
    by_cases hlt : k < n
    · have hka : k < la.length := by have := HA.out; omega
      have hkb : k < lb.length := by have := HB.out; omega
      have ha1 := ha.mono hE
      have hb1 := hb.mono hE
      rw [HA.out] at ha1
      rw [HB.out] at hb1
      obtain ⟨ba, oa, rfl, hca⟩ := Reads.elems Ver.enc_len ha1 (by omega)
      obtain ⟨bb, ob, rfl, hcb⟩ := Reads.elems Ver.enc_len hb1 (by omega)
      clear ha1 hb1
      obtain ⟨⟨r1, s1⟩, hxa⟩ := get_of_lt hka
      obtain ⟨⟨r2, s2⟩, hxb⟩ := get_of_lt hkb
      have x0 := cell_in_class (hca k _ hxa 0 _ rfl)
      have y0 := cell_in_class (hcb k _ hxb 0 _ rfl)
      have x1 := cell_in_class (hca k _ hxa 1 _ rfl)
      have y1 := cell_in_class (hcb k _ hxb 1 _ rfl)
      simp only [Nat.add_zero] at x0 y0
      have t1 := (HAA.out _ (List.mem_of_getElem? hxa)).mono hE
      have t2 := (HBA.out _ (List.mem_of_getElem? hxb)).mono hE
      have t3 := HLL.out _ (List.mem_of_getElem? hxa)
      clear hca hcb
      have HXA : Hid ((la.map Prod.fst)[k]? = some r1) := (by rw [List.getElem?_map, hxa]; rfl : (la.map Prod.fst)[k]? = some r1)
      have HXB : Hid ((lb.map Prod.fst)[k]? = some r2) := (by rw [List.getElem?_map, hxb]; rfl : (lb.map Prod.fst)[k]? = some r2)
      clear hxa hxb
      obtain ⟨res, hres⟩ : ∃ r, r = decide (r1 = r2) := ⟨_, rfl⟩
      have cE := Calls.in_class (w := wr) (fun w' hw' => eqVersion_ok r1 r2 s1 s2 w' (t1.mono hw') (t2.mono hw') t3)
      rw [← hres] at cE
      have HRES := Lib.hid hres
      clear hres t1 t2 t3
      go_wp2
      refine wp_region_quiet_below mixed (by kernel_rfl) ?_
      repeat (first | go_big_quiet_step (exact cE _ _) | quiet_step (exact cE _ _))
      refine wpQuiet_nil ?_
      intro _ hw'
      obtain ⟨⟨dq, osq⟩, hw''⟩ := hw'
      subst hw''
      clear cE x0 y0 x1 y1
      have hq := hE.regrown dq osq
      cases res with
      | true =>
        go_wp2
        go_roundw
        case rel =>
          refine ⟨k + 1, by omega, by go_num, fun j hj => ?_, hq⟩
          by_cases hjk : j < k
          · exact HALL.out j hjk
          · have : j = k := by omega
            subst this
            have := of_decide_eq_true HRES.out.symm
            rw [HXA.out, HXB.out, this]
        case measure => simp [intOf]; omega
      | false =>
        have HF : Hid (res0 = false) := (by
          rw [HR0.out]
          refine decide_eq_false fun h => ?_
          have h2 := HXA.out
          rw [h, HXB.out] at h2
          simp only [Option.some.injEq] at h2
          exact of_decide_eq_false HRES.out.symm h2.symm : res0 = false)
        go_wp2
        go_ret
        exact ⟨ret_bool HF.out.symm, hq⟩
    · have HT : Hid (res0 = true) := (by
        rw [HR0.out]
        refine decide_eq_true (List.ext_getElem? fun j => ?_)
        by_cases hj : j < k
        · exact HALL.out j hj
        · rw [List.getElem?_eq_none (by have := HA.out; simp; omega), List.getElem?_eq_none (by have := HB.out; simp; omega)] : res0 = true)
      go_wp2
      go_ret
      exact ⟨ret_bool HT.out.symm, hE⟩
set_option maxHeartbeats 400000 in
theorem szVersion_ok (r : Ver) (sv : Value) (left : Int) (w : World) (hv : Ver.At w (r, sv)) (hn : r.rs.length ≤ maxLen) (h0 : 0 ≤ left) (h1 : left ≤ 1048576) :
    Calls Try.prog 5 #[.agg #[.int .i64 r.fr, sv], .int .i64 left] w fun e w' => e = .returned (.int .i64 (szL left r.rs.length)) ∧ Ext w w' := by
  obtain ⟨a, cap, hs⟩ := Reads.shape hv
  simp only at hs
  subst hs
  by_cases h : (r.rs.length : Int) ≤ left
  · have HR := Lib.hid (szL_le h)
    have hp : ¬ left - (r.rs.length : Int) < 0 := by omega
    go_enter Try.func5, Try.ntmps5
    go_wp2_with fail
    refine (szRuleS_ok _ _ _ _ _ hn h0 h1).mono ?_
    rintro e w' ⟨rfl, rfl⟩
    rw [HR.out]
    go_wp2
    go_ret
    exact ⟨ret_int (by rw [HR.out]), (Ext.refl _).alloc _⟩
  · have HR := Lib.hid (szL_gt h)
    go_enter Try.func5, Try.ntmps5
    go_wp2_with fail
    refine (szRuleS_ok _ _ _ _ _ hn h0 h1).mono ?_
    rintro e w' ⟨rfl, rfl⟩
    rw [HR.out]
    go_wp2
    go_ret
    exact ⟨ret_int (by rw [HR.out]), (Ext.refl _).alloc _⟩
set_option maxHeartbeats 1000000 in
theorem szVersionS_ok (pl : List (Ver × Value)) (v : Value) (left : Int) (w : World) (hv : Ver.All w v pl) (hn : pl.length ≤ maxLen) (hll : ∀ p ∈ pl, p.1.rs.length ≤ maxLen) (h0 : 0 ≤ left) (h1 : left ≤ 1048576) :
    Calls Try.prog 4 #[v, .int .i64 left] w fun e w' => e = .returned (.int .i64 (szL left (pl.length + Ver.wt (pl.map Prod.fst)))) ∧ Ext w w' := by
  obtain ⟨hv, hat⟩ := hv
  obtain ⟨a, cap, rfl⟩ := hv.shape
  unfold maxLen at hn
  have HAT := Lib.hid hat
  have HLL := Lib.hid hll
  clear hat hll
  obtain ⟨W, hW⟩ : ∃ W, Ver.wt (pl.map Prod.fst) = W := ⟨_, rfl⟩
  rw [hW]
  have HW := Lib.hid hW
  clear hW
  by_cases hb : (pl.length : Int) ≤ left
  case neg =>
    have HR : Hid (szL left (pl.length + W) = -1) := (szL_gt (by omega) : szL left (pl.length + W) = -1)
    go_enter Try.func4, Try.ntmps4
    go_wp2
    go_ret
    exact ⟨ret_int HR.out.symm, Ext.refl _⟩
  go_enter Try.func4, Try.ntmps4
  go_wp2
  go_loopw [1, 5] (fun le i wr => ∃ k : Nat, k ≤ pl.length ∧ i = .int .i64 k ∧ le = .int .i64 (left - pl.length - (Ver.wt ((pl.map Prod.fst).take k) : Nat)) ∧ ((pl.length : Int) + (Ver.wt ((pl.map Prod.fst).take k) : Nat) ≤ left) ∧ Ext w wr) (fun _ i _ => pl.length - (intOf i).toNat)
  case atStart => exact ⟨0, Nat.zero_le _, rfl, by simp [Ver.wt], by simp [Ver.wt]; omega, Ext.refl _⟩
  case round =>
    obtain ⟨k, hk, rfl, rfl, hw, hE⟩ := hrel
    by_cases hlt : k < pl.length
    · have hv1 := hv.mono hE
      obtain ⟨b, off, rfl, hc⟩ := Reads.elems Ver.enc_len hv1 (by omega)
      obtain ⟨⟨r, sv⟩, hx⟩ := get_of_lt hlt
      have c0 := hc k _ hx 0 _ rfl
      have c1 := hc k _ hx 1 _ rfl
      rw [Nat.add_zero] at c0
      have hmem := List.mem_of_getElem? hx
      have hat := (HAT.out _ hmem).mono hE
      have hln := HLL.out _ hmem
      have HS := Lib.hid (Ver.wt_step (pl.map Prod.fst) k r (by rw [List.getElem?_map, hx]; rfl))
      have hle := Ver.wt_le (pl.map Prod.fst) (k + 1)
      rw [HS.out, HW.out] at hle
      obtain ⟨u, hu⟩ : ∃ u, Ver.wt ((pl.map Prod.fst).take k) = u := ⟨_, rfl⟩
      rw [hu] at hw hle HS ⊢
      clear hu hc hx hv1 hmem
      obtain ⟨ca, capa, hst⟩ := Reads.shape hat
      simp only at hst hln
      subst hst
      have hcell := Ver.one hat
      clear hcell
      have HC := szVersion_ok r _ (left - (pl.length : Int) - (u : Nat)) wr hat hln (by omega) (by omega)
      go_wp2_with fail
      refine HC.mono ?_
      rintro e w2 ⟨rfl, E2⟩
      by_cases hq : (r.rs.length : Int) ≤ left - (pl.length : Int) - (u : Nat)
      · have HR := Lib.hid (szL_le hq)
        have hp : ¬ left - (pl.length : Int) - (u : Nat) - (r.rs.length : Int) < 0 := by omega
        rw [HR.out]
        go_wp2
        go_roundw
        case rel => exact ⟨k + 1, by omega, by go_num, by rw [HS.out]; exact congrArg (Value.int IntKind.i64) (by omega), by rw [HS.out]; omega, Ext.trans hE E2⟩
        case measure => simp [intOf]; omega
      · have HR := Lib.hid (szL_gt hq)
        have HF : Hid (szL left (pl.length + W) = -1) := (szL_gt (by omega) : szL left (pl.length + W) = -1)
        rw [HR.out]
        go_wp2
        go_ret
        exact ⟨ret_int HF.out.symm, Ext.trans hE E2⟩
    · have hkn : (pl.map Prod.fst).take k = pl.map Prod.fst := List.take_of_length_le (by simp; omega)
      have hw2 := HW.out
      rw [hkn, hw2] at hw ⊢
      have HF : Hid (szL left (pl.length + W) = left - pl.length - (W : Nat)) := (by rw [szL_le (by omega)]; omega : szL left (pl.length + W) = left - pl.length - (W : Nat))
      clear hkn hw2
      go_wp2
      go_ret
      exact ⟨ret_int HF.out.symm, hE⟩
set_option maxHeartbeats 400000 in
theorem markVersion_ok (base hi : Nat) (r : Ver) (sv : Value) (k0 : Int) (w : World) (hv : Wr w base 48 4 sv r.rs.length) (hhi : ∀ j, sv.ownBlock = some j → j < hi) (hn : r.rs.length ≤ 1048576) (hk0 : 0 ≤ k0) (hk1 : k0 ≤ 1048576 * 1048576) :
    Calls Try.prog 13 #[.agg #[.int .i64 r.fr, sv], .int .i64 k0] w (RetMk w base hi k0 (r.rs.length * 4)) := by
  obtain ⟨xs, hv⟩ := hv
  obtain ⟨a, cap, hs⟩ := (Reads.of_owns hv).shape
  subst hs
  have hv1 := ((Ext.refl w).alloc (.cells #[.int .i64 r.fr, .slice a r.rs.length cap] 34)).owns hv
  have HC := markRuleS_ok base hi _ _ _ k0 _ hv1 hhi hn hk0 hk1
  go_enter Try.func13, Try.ntmps13
  go_wp2_with fail
  refine HC.mono ?_
  rintro e w2 ⟨rfl, _, hT⟩
  go_wp2
  go_ret
  exact ⟨_, rfl, by omega, by omega, ((Turned.refl base hi w).alloc _).trans hT⟩
set_option maxHeartbeats 1000000 in
theorem markVersionS_ok (base hi : Nat) (pl : List (Ver × Value)) (v : Value) (k0 : Int) (w : World) (hv : w.ownsRow base 34 2 v pl.length (pl.flatMap Ver.enc)) (hwr : ∀ p ∈ pl, Wr w base 48 4 p.2 p.1.rs.length) (hhi : ∀ j, v.ownBlock = some j → j < hi) (hhi2 : ∀ p ∈ pl, ∀ j, p.2.ownBlock = some j → j < hi)
    (hn : pl.length + Ver.wt (pl.map Prod.fst) ≤ 1048576) (hk0 : 0 ≤ k0) (hk1 : k0 ≤ 1048576 * 1048560) :
    Calls Try.prog 12 #[v, .int .i64 k0] w (RetMk w base hi k0 (8 * (pl.length + Ver.wt (pl.map Prod.fst)))) := by
  have HWR := Lib.hid hwr
  have HHI2 := Lib.hid hhi2
  clear hwr hhi2
  obtain ⟨W, hW⟩ : ∃ W, Ver.wt (pl.map Prod.fst) = W := ⟨_, rfl⟩
  rw [hW] at hn ⊢
  have HW := Lib.hid hW
  clear hW
  have hv0 := hv
  rcases hv.2 with ⟨rfl, h0⟩ | ⟨g, cap, cur, rfl, hg, hcur, hnc, hcm, hcs, htake⟩
  · rw [h0]
    go_enter Try.func12, Try.ntmps12
    go_wp2
    go_loopw [1, 5] (fun kk i wr => kk = .int .i64 k0 ∧ i = .int .i64 0 ∧ wr = w) (fun _ _ _ => 0)
    case atStart => exact ⟨rfl, rfl, rfl⟩
    case round =>
      obtain ⟨rfl, rfl, rfl⟩ := hrel
      go_wp2
      go_ret
      exact ⟨_, rfl, by omega, by omega, Turned.refl _ _ _⟩
  have hR : SvRows w g 34 2 cap 1 (pl.map Prod.snd) := by
    refine ⟨cur, hcur, hcs, fun j u hj => ?_⟩
    rw [List.getElem?_map] at hj
    cases hp : pl[j]? with
    | none => rw [hp] at hj; cases hj
    | some p =>
      rw [hp] at hj
      simp only [Option.map_some, Option.some.injEq] at hj
      subst hj
      have hjl : j < pl.length := (List.getElem?_eq_some_iff.1 hp).1
      have h1 := flat_some (enc := Ver.enc) Ver.enc_len hp (j := 1) (u := p.2) rfl
      rw [← htake, List.getElem?_take, if_pos (by omega), Array.getElem?_toList] at h1
      exact h1
  have HR := Lib.hid hR
  have HCM := Lib.hid hcm
  have hgh : g < hi := hhi g rfl
  clear hR hcur hcs htake hcm hv hhi hv0
  go_enter Try.func12, Try.ntmps12
  go_wp2
  go_loopw [1, 5] (fun kk i wr => ∃ (k : Nat) (c : Int), k ≤ pl.length ∧ i = .int .i64 k ∧ kk = .int .i64 c ∧ k0 ≤ c ∧ c ≤ k0 + 8 * ((k : Int) + (Ver.wt ((pl.map Prod.fst).take k) : Nat)) ∧ Hid (SvRows wr g 34 2 cap 1 (pl.map Prod.snd)) ∧ Hid (∀ p ∈ pl, Wr wr base 48 4 p.2 p.1.rs.length) ∧ g < wr.heap.size ∧ Turned base hi w wr) (fun _ i _ => pl.length - (intOf i).toNat)
  case atStart => exact ⟨0, k0, Nat.zero_le _, rfl, rfl, by omega, by omega, HR, HWR, by obtain ⟨cur, h1, _⟩ := HR.out; exact (Array.getElem?_eq_some_iff.1 h1).1, Turned.refl _ _ _⟩
  case round =>
    obtain ⟨k, c, hk, rfl, rfl, hc1, hc2, HRO, HWW, hgs, hT⟩ := hrel
    by_cases hlt : k < pl.length
    · obtain ⟨⟨r, sv⟩, hx⟩ := get_of_lt hlt
      have hmem := List.mem_of_getElem? hx
      have hsv : (pl.map Prod.snd)[k]? = some sv := by rw [List.getElem?_map, hx]; rfl
      have HS := Lib.hid (Ver.wt_step (pl.map Prod.fst) k r (by rw [List.getElem?_map, hx]; rfl))
      have hle := Ver.wt_le (pl.map Prod.fst) (k + 1)
      rw [HS.out, HW.out] at hle
      obtain ⟨u, hu⟩ : ∃ u, Ver.wt ((pl.map Prod.fst).take k) = u := ⟨_, rfl⟩
      rw [hu] at hc2 hle HS
      have hwsv := HWW.out _ hmem
      have hhsv := HHI2.out _ hmem
      simp only at hwsv hhsv
      have HMEM := Lib.hid hmem
      clear hu hx hmem
      have hroom : k * 2 + 2 ≤ cap * 2 := by omega
      obtain ⟨z0, hz0⟩ := HRO.out.cell (i := k * 2) (by omega)
      have f0 := HRO.out.frozen (k * 2)
      have zs := HRO.out.sv hsv
      have R1 : SvRows (wr.setCell ⟨g, k * 2, none⟩ (.int .i64 (c))) g 34 2 cap 1 (pl.map Prod.snd) := (HRO.out.set (k := k) (r := 0) (by decide) (by decide) (by decide) _)
      have hneg : ∀ {u : Value} {m : Nat}, Wr wr base 48 4 u m → ∀ b, u.ownBlock = some b → b ≠ g := fun h b hb => HRO.out.ne (by decide) h hb
      have W1 : ∀ {u : Value} {m : Nat}, Wr wr base 48 4 u m → Wr (wr.setCell ⟨g, k * 2, none⟩ (.int .i64 (c))) base 48 4 u m := fun h => (Wr.set h (hneg h) _)
      have T1 : Turned base hi w (wr.setCell ⟨g, k * 2, none⟩ (.int .i64 (c))) := (hT.setCell hg hgh _)
      have E1 : (wr.setCell ⟨g, k * 2, none⟩ (.int .i64 (c))).heap.size = wr.heap.size := by simp [World.setCell]
      obtain ⟨ca, capa, hst⟩ : ∃ ca capa, sv = .slice ca r.rs.length capa := by obtain ⟨xs, h⟩ := hwsv; exact (Reads.of_owns h).shape
      subst hst
      have hlen : r.rs.length ≤ 1048576 := by omega
      have HC := (W1 hwsv).elim fun xs hxs => markTight hxs fun b' h' o1 o2 => markRuleS_ok b' h' r.rs.length _ xs (c + 1) _ o1 o2 hlen (by omega) (by omega)
      go_wp2_with fail
      refine HC.mono ?_
      rintro e w2 ⟨rfl, hw2, b, hb1, hb2, hT2⟩
      have hbg : b ≠ g := by
        cases hob : Value.ownBlock (.slice ca r.rs.length capa) with
        | none => have := hb2 hob; rw [E1] at this; omega
        | some j => have := hb1 j hob; subst this; exact hneg hwsv j hob
      have R2 := R1.turned hT2 hbg
      have hgs2 : g < w2.heap.size := by have := hT2.size; rw [E1] at this; omega
      have W2 : ∀ p ∈ pl, Wr w2 base 48 4 p.2 p.1.rs.length := fun p hp => wr_after (by decide) (W1 (HWW.out p hp)) (W1 hwsv) hw2 hb1 hb2 hT2
      have T2 : Turned base hi w w2 := T1.trans (hT2.wider fun i hi1 hi2 => by
        cases hob : Value.ownBlock (.slice ca r.rs.length capa) with
        | none => have := hb2 hob; omega
        | some j =>
          have e1 := hb1 j hob
          have e2 := hhsv j hob
          have e3 : base ≤ j := by obtain ⟨xs, h⟩ := hwsv; exact (h.lt j hob).1
          omega)

      have WW2 := Lib.hid W2
      have RR2 := Lib.hid R2
      have NE2 : Hid (∀ p ∈ pl, ∀ b, p.2.ownBlock = some b → b ≠ g) := Lib.hid fun p hp b hb => hneg (HWW.out p hp) b hb
      clear hz0 f0 zs R1 W1 T1 HC R2 W2 hneg
      go_wp2
      go_roundw
      case rel =>
        refine ⟨k + 1, _, by omega, by go_num, rfl, by omega, by rw [HS.out]; omega, Lib.hid RR2.out, Lib.hid fun p hp => (WW2.out p hp), by first | exact hgs2 | (simp [World.setCell]; exact hgs2), T2⟩
      case measure => simp [intOf]; omega
    · have hkn : (pl.map Prod.fst).take k = pl.map Prod.fst := List.take_of_length_le (by simp; omega)
      have hw2 := HW.out
      rw [hkn, hw2] at hc2
      clear hkn hw2
      go_wp2
      go_ret
      exact ⟨_, rfl, hc1, by omega, hT⟩
/-- A row of Version of the call's own. -/
abbrev OwnVersion (w : World) (base hi : Nat) (l : List Ver) (v : Value) : Prop := Ver.Own 34 48 w base hi l v
theorem toVersionS_rd (l : List Ver) (v : Value) (w : World) (hv : Ver.Rd w v l) (hl : l.length ≤ 1048576) (hll : ∀ p ∈ l, p.rs.length ≤ 1048576) :
    Calls Try.prog 7 #[v] w fun e w' => ∃ v', e = .returned v' ∧ OwnVersion w' w.heap.size w'.heap.size l v' ∧ Ext w w' := by
  obtain ⟨pl, rfl, hv⟩ := hv
  refine (toVersionS_ok pl v w hv (by simpa using hl) (fun p hp => hll p.1 (List.mem_map_of_mem hp))).mono ?_
  rintro e w' ⟨v', pl', rfl, h1, h2, h3, h4⟩
  exact ⟨v', rfl, by rw [← h1]; exact Ver.Own.of h2 h3, h4⟩
theorem szVersionS_rd (l : List Ver) (v : Value) (left : Int) (w : World) (hv : Ver.Rd w v l) (hn : l.length ≤ maxLen) (hll : ∀ p ∈ l, p.rs.length ≤ maxLen) (h0 : 0 ≤ left) (h1 : left ≤ 1048576) :
    Calls Try.prog 4 #[v, .int .i64 left] w fun e w' => e = .returned (.int .i64 (szL left (l.length + Ver.wt l))) ∧ Ext w w' := by
  obtain ⟨pl, rfl, hv⟩ := hv
  have := szVersionS_ok pl v left w hv (by simpa using hn) (fun p hp => hll p.1 (List.mem_map_of_mem hp)) h0 h1
  simpa using this
theorem eqVersionS_rd (la lb : List Ver) (va vb : Value) (w : World) (ha : Ver.Rd w va la) (hb : Ver.Rd w vb lb) (hm : la.length ≤ 1048576) (hll : ∀ p ∈ la, p.rs.length ≤ 1048576) :
    Calls Try.prog 10 #[va, vb] w fun e w' => e = .returned (.bool (decide (la = lb))) ∧ Ext w w' := by
  obtain ⟨pa, rfl, ha⟩ := ha
  obtain ⟨pb, rfl, hb⟩ := hb
  exact eqVersionS_ok pa pb va vb w ha hb (by simpa using hm) (fun p hp => hll p.1 (List.mem_map_of_mem hp))
theorem markVersionS_rd (base hi : Nat) (l : List Ver) (v : Value) (k0 : Int) (w : World) (hv : OwnVersion w base hi l v) (hn : l.length + Ver.wt l ≤ 1048576) (hk0 : 0 ≤ k0) (hk1 : k0 ≤ 1048576 * 1048560) :
    Calls Try.prog 12 #[v, .int .i64 k0] w (RetMk w base hi k0 (8 * (l.length + Ver.wt l))) := by
  obtain ⟨pl, rfl, h2, h3, h4, h5⟩ := hv
  have := markVersionS_ok base hi pl v k0 w h2 (fun p hp => ⟨_, h3 p hp⟩) h4 h5 (by simpa using hn) hk0 hk1
  simpa using this
end Go.Proofs.Ytankodjcccnjlaa
