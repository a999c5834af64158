/- What the reference's PutVersion computes; no condition beyond the lengths that are named. -/
import Derived.Test.YtankodjcccnjlaaPutVT
import Derived.Test.YtankodjcccnjlaaPutVL
import Derived.Test.YtankodjcccnjlaaCopyNVersion
import Derived.Test.YtankodjcccnjlaaVers
namespace Go.Proofs.Ytankodjcccnjlaa
open Go.RowKit Go.Sort Go.Rd
theorem ownX_shape {R F : TypeId} {w : World} {base : Nat} {l : List Ver} {v : Value} (h : Ver.OwnX R F w base l v) : ∃ a n c, v = .slice a n c := by
  obtain ⟨a, c, h⟩ := h.rd.shape
  exact ⟨a, _, c, h⟩
set_option maxHeartbeats 4000000 in
theorem specPutVersion_ok (l : List Ver) (r : Ver) (v sv : Value) (w : World) (hv : Ver.Rd w v l) (hat : Ver.At w (r, sv)) (hl : l.length ≤ 1048576) (hll : ∀ x ∈ l, x.rs.length ≤ 1048576) (hr : r.rs.length ≤ 1048576) :
    Calls Try.prog 6 #[v, .agg #[.int .i64 r.fr, sv]] w fun e w' => ∃ v', e = .returned (.tuple #[v', .bool (putO l r).isSome]) ∧ Ver.Rd w' v' ((putO l r).getD []) ∧ Ext w w' := by
  obtain ⟨X, hX⟩ : ∃ X, putO l r = X := ⟨_, rfl⟩
  have HX := Lib.hid hX
  rw [hX]
  clear hX
  have HV := Lib.hid hv
  have HAT := Lib.hid hat
  have HLL := Lib.hid hll
  obtain ⟨va, vc, hvs⟩ := hv.shape
  subst hvs
  obtain ⟨ta, tc, hts⟩ := Reads.shape hat
  simp only at hts
  subst hts
  obtain ⟨wB, hwB⟩ : ∃ x, x = w.alloc (.cells #[.int .i64 r.fr, .slice ta r.rs.length tc] 34) := ⟨_, rfl⟩
  have EB : Ext w wB := by rw [hwB]; exact (Ext.refl w).alloc _
  have HB : Hid (Box wB w.heap.size 34 [.int .i64 r.fr, .slice ta r.rs.length tc]) := Lib.hid (Box.of_new hwB rfl)
  clear hv hat hll
  go_enter Try.func6, Try.ntmps6
  go_upto_region 1 with fail
  rw [← hwB]
  clear hwB
  have HG := Lib.hid (l8Good_ok l _ wB (HV.out.mono EB) hl HLL.out)
  go_wp2_with fail
  refine HG.out.mono ?_
  rintro e w2 ⟨rfl, E2⟩
  clear HG
  have EB2 := Ext.trans EB E2
  cases hg : goodVs l
  case false =>
    have HN : Hid (X = none) := Lib.hid (by rw [← HX.out]; exact putO_bad hg)
    go_wp2
    go_ret2
    rw [HN.out]
    exact ⟨_, rfl, ⟨[], rfl, Reads.of_owns (owns_empty w2 w2.heap.size 34 2 (Nat.le_refl _)), fun p hp => by simp at hp⟩, (EB2).alloc _⟩
  have b0 := (Box.ext E2 HB.out).cell 0 rfl
  have b1 := (Box.ext E2 HB.out).cell 1 rfl
  obtain ⟨w3, hw3⟩ : ∃ x, x = w2.alloc (.cells #[.int .i64 r.fr, .slice ta r.rs.length tc] 34) := ⟨_, rfl⟩
  have E3 : Ext w2 w3 := by rw [hw3]; exact (Ext.refl w2).alloc _
  have HR1 : Hid (Ver.Rd w3 (.slice (some ⟨w2.heap.size, 0, none⟩) 1 1) [r]) := Lib.hid ⟨[(r, .slice ta r.rs.length tc)], rfl, Reads.of_owns (owns_laid (Nat.le_refl _) (Box.of_new hw3 rfl) (Nat.le_refl _) (by decide) rfl rfl rfl), fun p hp => by
    simp only [List.mem_singleton] at hp
    subst hp
    exact HAT.out.mono (Ext.trans EB2 E3)⟩
  have HG1 := Lib.hid (l8Good_ok [r] _ w3 HR1.out (by simp) (fun p hp => by simp only [List.mem_singleton] at hp; subst hp; exact hr))
  go_wp2_with fail
  rw [← hw3]
  clear hw3 b0 b1
  refine HG1.out.mono ?_
  rintro e w4 ⟨rfl, E4⟩
  clear HG1 HR1
  have E24 := Ext.trans E2 (Ext.trans E3 E4)
  clear E3 E4
  cases hg1 : goodVs [r]
  case false =>
    have HN : Hid (X = none) := Lib.hid (by rw [← HX.out]; exact putO_no (putL_one hg1))
    go_wp2
    go_ret2
    rw [HN.out]
    exact ⟨_, rfl, ⟨[], rfl, Reads.of_owns (owns_empty w4 w4.heap.size 34 2 (Nat.le_refl _)), fun p hp => by simp at hp⟩, (Ext.trans EB E24).alloc _⟩
  go_wp2
  go_loopw [6, 7] (fun o i wr => ∃ k : Nat, k ≤ l.length ∧ i = .int .i64 k ∧ Hid (Ver.OwnX 34 48 wr wB.heap.size ((l.take k).filter (fun y : Ver => decide (y.fr < r.fr))) o) ∧ Ext wB wr) (fun _ i _ => l.length - (intOf i).toNat)
  case atStart => exact ⟨0, Nat.zero_le _, rfl, Lib.hid ⟨[], rfl, owns_empty w4 wB.heap.size _ _ E24.size, fun p hp => by simp at hp, fun i j p q _ h => by simp [Ver.lens] at h⟩, E24.alloc _⟩
  case round =>
    obtain ⟨k, hk, rfl, HO, hE⟩ := hrel
    obtain ⟨ra, rn, rc, hra⟩ := ownX_shape HO.out
    subst hra
    by_cases hlt : k < l.length
    · obtain ⟨x, hx⟩ := get_of_lt hlt
      have hv1 := HV.out.mono (Ext.trans EB hE)
      obtain ⟨b, off, hab⟩ := Ver.Rd.addr hv1 (by omega)
      subst hab
      obtain ⟨ca, cc, c0, c1, hatx⟩ := Ver.Rd.cells hv1 hx
      have n0 : (0 : Int) ≤ (k : Int) := by omega
      have n1 : (k : Int) < (l.length : Int) := by omega
      have hxl := HLL.out x (List.mem_of_getElem? hx)
      have HS : Hid (∀ w', Ext wr w' → w'.cell? ⟨b, off + k * 2, none⟩ = some (.int .i64 x.fr) ∧ w'.cell? ⟨w.heap.size, 0, none⟩ = some (.int .i64 r.fr)) := Lib.hid fun w' h => ⟨h.cell c0, (Box.ext (Ext.trans hE h) HB.out).cell 0 rfl⟩
      have HSTEP := Lib.hid (filter_step (fun y : Ver => decide (y.fr < r.fr)) l k x hx)
      have HC0 := Lib.hid c0
      have HC1 := Lib.hid c1
      have HATX := Lib.hid hatx
      clear hx hv1 c0 c1 hatx
      go_upto_region 7 with fail
      go_region_held3 (fun w' => w'.cell? ⟨b, off + k * 2, none⟩ = some (.int .i64 x.fr) ∧ w'.cell? ⟨w.heap.size, 0, none⟩ = some (.int .i64 r.fr)) (exact HS.out _ (by (repeat' (first | with_reducible exact Ext.refl _ | with_reducible assumption | with_reducible apply Ext.drew)); done)) (fail)
      obtain ⟨wq, hwq⟩ : ∃ y, y = wr.drew := ⟨_, rfl⟩
      have EQ0 : Ext wr wq := by rw [hwq]; exact (Ext.refl wr).drew
      have EQ := Ext.trans hE EQ0
      have HOQ := Lib.hid (HO.out.ext EQ0)
      rw [← hwq]
      clear hwq HS
      by_cases hc : x.fr < r.fr
      · have HRES : Hid (((l.take (k + 1)).filter (fun y : Ver => decide (y.fr < r.fr))) = ((l.take k).filter (fun y : Ver => decide (y.fr < r.fr))) ++ [x]) := Lib.hid (by rw [HSTEP.out, if_pos (decide_eq_true hc)])
        have c0 := EQ0.cell HC0.out
        have c1 := EQ0.cell HC1.out
        obtain ⟨pl, hpl, h2, h3, h4⟩ := HOQ.out
        have hpn : pl.length = ((l.take k).filter (fun y : Ver => decide (y.fr < r.fr))).length := by have := congrArg List.length hpl; simpa only [List.length_map] using this
        have hpb : pl.length ≤ 1048576 := by rw [hpn]; have := List.length_filter_le (fun y : Ver => decide (y.fr < r.fr)) (l.take k); have := goodVs_len hg; have : (l.take k).length ≤ l.length := (by rw [List.length_take]; omega); omega
        have HC := Lib.hid (l8Own_ok x (.slice ca x.rs.length cc) wq (HATX.out.mono EQ0) hxl)
        have H2 := Lib.hid h2
        have H3 := Lib.hid h3
        have H4 := Lib.hid h4
        have HPL := Lib.hid hpl
        have ZQ := (EQ).size
        clear h2 h3 h4 hpl hpn
        go_wp2_with fail
        refine HC.out.mono ?_
        rintro e w2 ⟨v2, rfl, o2, E2⟩
        clear HC
        obtain ⟨a2, cap2, hs2⟩ := (Reads.of_owns o2).shape
        subst hs2
        have E3 : Ext wq (w2.alloc (.cells #[.int .i64 x.fr, .slice a2 x.rs.length cap2] 34)) := E2.alloc _
        have hb2 : ∀ b, Value.ownBlock (.slice a2 x.rs.length cap2) = some b → wq.heap.size ≤ b := fun b hb => by have := (o2.lt b hb).1; omega
        have O3 := Lib.hid (owns_mono (base' := wB.heap.size) (owns_under o2 (.cells #[.int .i64 x.fr, .slice a2 x.rs.length cap2] 34)) (by omega))
        have HB2 := Lib.hid hb2
        clear o2 hb2
        go_wp2_with (at_builtin; refine wpl_appG wB (w2.alloc (.cells #[.int .i64 x.fr, .slice a2 x.rs.length cap2] 34)) rfl _ _ 28 rfl 34 _ 2 32 Try.underlying28 Try.infoXVersion rfl (by decide) (by decide) _ pl.length (pl.flatMap Ver.enc) (Ext.trans EQ E3) (Ext.owns E3 H2.out) _ 1 1 [.int .i64 x.fr, .slice a2 x.rs.length cap2] rfl rfl rfl (cells2_at Box.here) ?c1 ?c2 ?_)
        case c1 =>
          intro u hu
          simp only [List.mem_cons, List.not_mem_nil, or_false] at hu
          rcases hu with rfl | rfl <;> rfl
        case c2 => omega
        intro v' w4 o4 E4 G4
        have HP : Hid (Ver.OwnX 34 48 w4 wB.heap.size ((l.take (k + 1)).filter (fun y : Ver => decide (y.fr < r.fr))) v') := Lib.hid (by
          rw [HRES.out, ← HPL.out]
          exact Ver.OwnX.push (by decide) H2.out H3.out H4.out E3 G4 O3.out HB2.out o4)
        clear o4 G4 H2 H3 H4 HPL O3 HB2 HRES ZQ
        obtain ⟨xa, xn, xc, hxs⟩ := ownX_shape HP.out
        subst hxs
        clear c0 c1
        go_wp2
        go_roundw
        case rel => exact ⟨k + 1, by omega, by go_num, HP, E4⟩
        case measure => simp [intOf]; omega
      · have HRES : Hid (Ver.OwnX 34 48 wq wB.heap.size ((l.take (k + 1)).filter (fun y : Ver => decide (y.fr < r.fr))) (.slice ra rn rc)) := Lib.hid (by rw [HSTEP.out, if_neg (by rw [decide_eq_false hc]; exact Bool.false_ne_true), List.append_nil]; exact HOQ.out)
        go_wp2
        go_roundw
        case rel => exact ⟨k + 1, by omega, by go_num, HRES, EQ⟩
        case measure => simp [intOf]; omega
    · have hkn : l.take k = l := List.take_of_length_le (by omega)
      have HOL : Hid (Ver.OwnX 34 48 wr wB.heap.size (l.filter (fun y : Ver => decide (y.fr < r.fr))) (.slice ra rn rc)) := Lib.hid (by have := HO.out; rw [hkn] at this; exact this)
      have n2 : ¬ ((k : Int) < (l.length : Int)) := by omega
      clear hkn HO
      have b0 := (Box.ext hE HB.out).cell 0 rfl
      have b1 := (Box.ext hE HB.out).cell 1 rfl
      have hpl2 : (putL l r).length ≤ 1048576 := by have := putL_len l r; have := goodVs_len hg; omega
      have HPM : Hid (∀ p ∈ putL l r, p.rs.length ≤ 1048576) := Lib.hid fun p hp => by
        rcases putL_mem hp with h | h
        · exact HLL.out p h
        · rw [h]; exact hr
      obtain ⟨pl, hpl, h2, h3, h4⟩ := HOL.out
      have hpn : pl.length = (l.filter (fun y : Ver => decide (y.fr < r.fr))).length := by have := congrArg List.length hpl; simpa only [List.length_map] using this
      have hpb : pl.length ≤ 1048576 := by rw [hpn]; have := List.length_filter_le (fun y : Ver => decide (y.fr < r.fr)) l; have := goodVs_len hg; omega
      have HC := Lib.hid (l8Own_ok r (.slice ta r.rs.length tc) wr (HAT.out.mono (Ext.trans EB hE)) hr)
      have H2 := Lib.hid h2
      have H3 := Lib.hid h3
      have H4 := Lib.hid h4
      have HPL := Lib.hid hpl
      have ZQ := (hE).size
      clear h2 h3 h4 hpl hpn
      go_wp2_with fail
      refine HC.out.mono ?_
      rintro e w2 ⟨v2, rfl, o2, E2⟩
      clear HC
      obtain ⟨a2, cap2, hs2⟩ := (Reads.of_owns o2).shape
      subst hs2
      have E3 : Ext wr (w2.alloc (.cells #[.int .i64 r.fr, .slice a2 r.rs.length cap2] 34)) := E2.alloc _
      have hb2 : ∀ b, Value.ownBlock (.slice a2 r.rs.length cap2) = some b → wr.heap.size ≤ b := fun b hb => by have := (o2.lt b hb).1; omega
      have O3 := Lib.hid (owns_mono (base' := wB.heap.size) (owns_under o2 (.cells #[.int .i64 r.fr, .slice a2 r.rs.length cap2] 34)) (by omega))
      have HB2 := Lib.hid hb2
      clear o2 hb2
      go_wp2_with (at_builtin; refine wpl_appG wB (w2.alloc (.cells #[.int .i64 r.fr, .slice a2 r.rs.length cap2] 34)) rfl _ _ 28 rfl 34 _ 2 32 Try.underlying28 Try.infoXVersion rfl (by decide) (by decide) _ pl.length (pl.flatMap Ver.enc) (Ext.trans hE E3) (Ext.owns E3 H2.out) _ 1 1 [.int .i64 r.fr, .slice a2 r.rs.length cap2] rfl rfl rfl (cells2_at Box.here) ?c1 ?c2 ?_)
      case c1 =>
        intro u hu
        simp only [List.mem_cons, List.not_mem_nil, or_false] at hu
        rcases hu with rfl | rfl <;> rfl
      case c2 => omega
      intro v' w4 o4 E4 G4
      have HP : Hid (Ver.OwnX 34 48 w4 wB.heap.size (l.filter (fun y : Ver => decide (y.fr < r.fr)) ++ [r]) v') := Lib.hid (by
        rw [← HPL.out]
        exact Ver.OwnX.push (by decide) H2.out H3.out H4.out E3 G4 O3.out HB2.out o4)
      clear o4 G4 H2 H3 H4 HPL O3 HB2 ZQ
      obtain ⟨xa, xn, xc, hxs⟩ := ownX_shape HP.out
      subst hxs
      clear b0 b1 n2
      go_wp2
      go_loopw [6, 8] (fun o i wr => ∃ k : Nat, k ≤ l.length ∧ i = .int .i64 k ∧ Hid (Ver.OwnX 34 48 wr wB.heap.size (l.filter (fun y : Ver => decide (y.fr < r.fr)) ++ [r] ++ (l.take k).filter (fun y : Ver => decide (r.fr < y.fr))) o) ∧ Ext wB wr) (fun _ i _ => l.length - (intOf i).toNat)
      case atStart => exact ⟨0, Nat.zero_le _, rfl, Lib.hid (by have := HP.out; simpa using this), E4⟩
      case round =>
        obtain ⟨k, hk, rfl, HO, hE⟩ := hrel
        obtain ⟨ra, rn, rc, hra⟩ := ownX_shape HO.out
        subst hra
        by_cases hlt : k < l.length
        · obtain ⟨x, hx⟩ := get_of_lt hlt
          have hv1 := HV.out.mono (Ext.trans EB hE)
          obtain ⟨b, off, hab⟩ := Ver.Rd.addr hv1 (by omega)
          subst hab
          obtain ⟨ca, cc, c0, c1, hatx⟩ := Ver.Rd.cells hv1 hx
          have n0 : (0 : Int) ≤ (k : Int) := by omega
          have n1 : (k : Int) < (l.length : Int) := by omega
          have hxl := HLL.out x (List.mem_of_getElem? hx)
          have HS : Hid (∀ w', Ext wr w' → w'.cell? ⟨b, off + k * 2, none⟩ = some (.int .i64 x.fr) ∧ w'.cell? ⟨w.heap.size, 0, none⟩ = some (.int .i64 r.fr)) := Lib.hid fun w' h => ⟨h.cell c0, (Box.ext (Ext.trans hE h) HB.out).cell 0 rfl⟩
          have HSTEP := Lib.hid (filter_step (fun y : Ver => decide (r.fr < y.fr)) l k x hx)
          have HC0 := Lib.hid c0
          have HC1 := Lib.hid c1
          have HATX := Lib.hid hatx
          clear hx hv1 c0 c1 hatx
          go_upto_region 13 with fail
          go_region_held3 (fun w' => w'.cell? ⟨b, off + k * 2, none⟩ = some (.int .i64 x.fr) ∧ w'.cell? ⟨w.heap.size, 0, none⟩ = some (.int .i64 r.fr)) (exact HS.out _ (by (repeat' (first | with_reducible exact Ext.refl _ | with_reducible assumption | with_reducible apply Ext.drew)); done)) (fail)
          obtain ⟨wq, hwq⟩ : ∃ y, y = wr.drew := ⟨_, rfl⟩
          have EQ0 : Ext wr wq := by rw [hwq]; exact (Ext.refl wr).drew
          have EQ := Ext.trans hE EQ0
          have HOQ := Lib.hid (HO.out.ext EQ0)
          rw [← hwq]
          clear hwq HS
          by_cases hc : r.fr < x.fr
          · have HRES : Hid ((l.filter (fun y : Ver => decide (y.fr < r.fr)) ++ [r] ++ (l.take (k + 1)).filter (fun y : Ver => decide (r.fr < y.fr))) = (l.filter (fun y : Ver => decide (y.fr < r.fr)) ++ [r] ++ (l.take k).filter (fun y : Ver => decide (r.fr < y.fr))) ++ [x]) := Lib.hid (by rw [HSTEP.out, if_pos (decide_eq_true hc)]; simp only [List.append_assoc])
            have c0 := EQ0.cell HC0.out
            have c1 := EQ0.cell HC1.out
            obtain ⟨pl, hpl, h2, h3, h4⟩ := HOQ.out
            have hpn : pl.length = (l.filter (fun y : Ver => decide (y.fr < r.fr)) ++ [r] ++ (l.take k).filter (fun y : Ver => decide (r.fr < y.fr))).length := by have := congrArg List.length hpl; simpa only [List.length_map] using this
            have hpb : pl.length ≤ 1048576 := by rw [hpn]; simp only [List.length_append, List.length_singleton]; have := List.length_filter_le (fun y : Ver => decide (r.fr < y.fr)) (l.take k); have := List.length_filter_le (fun y : Ver => decide (y.fr < r.fr)) l; have := goodVs_len hg; have : (l.take k).length ≤ l.length := (by rw [List.length_take]; omega); omega
            have HC := Lib.hid (l8Own_ok x (.slice ca x.rs.length cc) wq (HATX.out.mono EQ0) hxl)
            have H2 := Lib.hid h2
            have H3 := Lib.hid h3
            have H4 := Lib.hid h4
            have HPL := Lib.hid hpl
            have ZQ := (EQ).size
            clear h2 h3 h4 hpl hpn
            go_wp2_with fail
            refine HC.out.mono ?_
            rintro e w2 ⟨v2, rfl, o2, E2⟩
            clear HC
            obtain ⟨a2, cap2, hs2⟩ := (Reads.of_owns o2).shape
            subst hs2
            have E3 : Ext wq (w2.alloc (.cells #[.int .i64 x.fr, .slice a2 x.rs.length cap2] 34)) := E2.alloc _
            have hb2 : ∀ b, Value.ownBlock (.slice a2 x.rs.length cap2) = some b → wq.heap.size ≤ b := fun b hb => by have := (o2.lt b hb).1; omega
            have O3 := Lib.hid (owns_mono (base' := wB.heap.size) (owns_under o2 (.cells #[.int .i64 x.fr, .slice a2 x.rs.length cap2] 34)) (by omega))
            have HB2 := Lib.hid hb2
            clear o2 hb2
            go_wp2_with (at_builtin; refine wpl_appG wB (w2.alloc (.cells #[.int .i64 x.fr, .slice a2 x.rs.length cap2] 34)) rfl _ _ 28 rfl 34 _ 2 32 Try.underlying28 Try.infoXVersion rfl (by decide) (by decide) _ pl.length (pl.flatMap Ver.enc) (Ext.trans EQ E3) (Ext.owns E3 H2.out) _ 1 1 [.int .i64 x.fr, .slice a2 x.rs.length cap2] rfl rfl rfl (cells2_at Box.here) ?c1 ?c2 ?_)
            case c1 =>
              intro u hu
              simp only [List.mem_cons, List.not_mem_nil, or_false] at hu
              rcases hu with rfl | rfl <;> rfl
            case c2 => omega
            intro v' w4 o4 E4 G4
            have HP : Hid (Ver.OwnX 34 48 w4 wB.heap.size (l.filter (fun y : Ver => decide (y.fr < r.fr)) ++ [r] ++ (l.take (k + 1)).filter (fun y : Ver => decide (r.fr < y.fr))) v') := Lib.hid (by
              rw [HRES.out, ← HPL.out]
              exact Ver.OwnX.push (by decide) H2.out H3.out H4.out E3 G4 O3.out HB2.out o4)
            clear o4 G4 H2 H3 H4 HPL O3 HB2 HRES ZQ
            obtain ⟨xa, xn, xc, hxs⟩ := ownX_shape HP.out
            subst hxs
            clear c0 c1
            go_wp2
            go_roundw
            case rel => exact ⟨k + 1, by omega, by go_num, HP, E4⟩
            case measure => simp [intOf]; omega
          · have HRES : Hid (Ver.OwnX 34 48 wq wB.heap.size (l.filter (fun y : Ver => decide (y.fr < r.fr)) ++ [r] ++ (l.take (k + 1)).filter (fun y : Ver => decide (r.fr < y.fr))) (.slice ra rn rc)) := Lib.hid (by rw [HSTEP.out, if_neg (by rw [decide_eq_false hc]; exact Bool.false_ne_true), List.append_nil]; exact HOQ.out)
            go_wp2
            go_roundw
            case rel => exact ⟨k + 1, by omega, by go_num, HRES, EQ⟩
            case measure => simp [intOf]; omega
        · have hkn : l.take k = l := List.take_of_length_le (by omega)
          have HOL : Hid (Ver.OwnX 34 48 wr wB.heap.size (l.filter (fun y : Ver => decide (y.fr < r.fr)) ++ [r] ++ l.filter (fun y : Ver => decide (r.fr < y.fr))) (.slice ra rn rc)) := Lib.hid (by have := HO.out; rw [hkn] at this; exact this)
          have n2 : ¬ ((k : Int) < (l.length : Int)) := by omega
          clear hkn HO
          have HA := Lib.hid (l8Good_ok (putL l r) _ wr HOL.out.rd hpl2 HPM.out)
          go_wp2_with fail
          refine HA.out.mono ?_
          rintro e w9 ⟨rfl, E9⟩
          clear HA
          have E9' := Ext.trans (Ext.trans EB hE) E9
          cases hb : goodVs (putL l r)
          case false =>
            have HN : Hid (X = none) := Lib.hid (by rw [← HX.out]; exact putO_no hb)
            go_wp2
            go_ret2
            rw [HN.out]
            exact ⟨_, rfl, ⟨[], rfl, Reads.of_owns (owns_empty w9 w9.heap.size 34 2 (Nat.le_refl _)), fun p hp => by simp at hp⟩, (E9').alloc _⟩
          have HR : Hid (X = some (putL l r)) := Lib.hid (by rw [← HX.out]; exact putO_yes hg hb)
          have HP9 := Lib.hid (HOL.out.ext E9)
          go_wp2
          go_ret2
          rw [HR.out]
          exact ⟨_, rfl, HP9.out.rd, E9'⟩
end Go.Proofs.Ytankodjcccnjlaa
