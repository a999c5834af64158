/- What the program's PutVersion computes; no condition beyond the lengths that are named. -/
import Derived.Test.YtankodjcccnjlaaPutVT
import Derived.Test.YtankodjcccnjlaaPutVB
import Derived.Test.YtankodjcccnjlaaInsVersion
import Derived.Test.YtankodjcccnjlaaVers
namespace Go.Proofs.Ytankodjcccnjlaa
open Go.RowKit Go.Sort Go.Rd
set_option maxHeartbeats 4000000 in
theorem putVersion_ok (l : List Ver) (r : Ver) (v sv : Value) (w : World) (hv : Ver.Rd w v l) (hat : Ver.At w (r, sv)) (hl : l.length ≤ 1048576) (hll : ∀ x ∈ l, x.rs.length ≤ 1048576) (hr : r.rs.length ≤ 1048576) :
    Calls Try.prog 9 #[v, .agg #[.int .i64 r.fr, sv]] w fun e w' => ∃ v', e = .returned (.tuple #[v', .bool (putO l r).isSome]) ∧ Ver.OwnX 34 48 w' w.heap.size ((putO l r).getD []) v' ∧ Ext w w' := by
  obtain ⟨X, hX⟩ : ∃ X, putO l r = X := ⟨_, rfl⟩
  have HX := Lib.hid hX
  rw [hX]
  clear hX
  have HCOPY : Hid (∀ w1, Ext w w1 → Calls Try.prog 20 #[v] w1 fun e w' => ∃ v', e = .returned v' ∧ Ver.OwnX 34 48 w' w1.heap.size l v' ∧ Ext w1 w') := Lib.hid fun w1 hE => by
    obtain ⟨pl, hpl, hal⟩ := hv.mono hE
    subst hpl
    exact copyVersions_ok pl v w1 hal (by simpa using hl) (fun p hp => hll p.1 (List.mem_map_of_mem hp))
  have HV := Lib.hid hv
  have HAT := Lib.hid hat
  have HLL := Lib.hid hll
  obtain ⟨va, vc, hvs⟩ := hv.shape
  subst hvs
  obtain ⟨ta, tc, hts⟩ := Reads.shape hat
  simp only at hts
  subst hts
  obtain ⟨wB, hwB⟩ : ∃ x, x = w.alloc (.cells #[.int .i64 r.fr, .slice ta r.rs.length tc] 34) := ⟨_, rfl⟩
  have EB : Ext w wB := by rw [hwB]; exact (Ext.refl w).alloc _
  have sB : wB.heap.size = w.heap.size + 1 := by rw [hwB]; simp
  have HB : Hid (Box wB w.heap.size 34 [.int .i64 r.fr, .slice ta r.rs.length tc]) := Lib.hid (Box.of_new hwB rfl)
  have HSB := Lib.hid sB
  clear hv hat hll sB
  go_enter Try.func9, Try.ntmps9
  go_upto_region 1 with fail
  rw [← hwB]
  clear hwB
  have HG := Lib.hid (areVersions_ok l _ wB (HV.out.mono EB) hl HLL.out)
  go_wp2_with fail
  refine HG.out.mono ?_
  rintro e w2 ⟨rfl, E2⟩
  clear HG
  have EB2 := Ext.trans EB E2
  cases hg : goodVs l
  case false =>
    have HN : Hid (X = none) := Lib.hid (by rw [← HX.out]; exact putO_bad hg)
    go_wp2
    go_ret2
    rw [HN.out]
    exact ⟨_, rfl, Ver.OwnX.nil _ _ _ _, EB2⟩
  have HCC := Lib.hid (HCOPY.out w2 EB2)
  clear HCOPY
  go_wp2_with fail
  refine HCC.out.mono ?_
  rintro e w3 ⟨v3, rfl, o3, E3⟩
  clear HCC
  have EB3 := Ext.trans EB2 E3
  have B3 := Box.ext (Ext.trans E2 E3) HB.out
  have b1 := B3.cell 1 rfl
  obtain ⟨oa, oc, ho⟩ := o3.rd.shape
  subst ho
  have HT3 := Lib.hid (Ver.OwnT.of o3)
  have HB3 := Lib.hid B3
  have HCR := Lib.hid (cloneRule_ok r.rs (.slice ta r.rs.length tc) w3 (HAT.out.mono EB3) hr)
  clear o3 B3
  go_wp2_with fail
  refine HCR.out.mono ?_
  rintro e w4 ⟨v4, rfl, o4, E4⟩
  clear HCR b1
  obtain ⟨ca, cc, hcs⟩ := (Reads.of_owns o4).shape
  subst hcs
  have B4 := Box.ext E4 HB3.out
  have d1 := B4.cell 1 rfl
  have g1 := B4.frozen 1
  obtain ⟨w5, hw5⟩ : ∃ x, x = w4.setCell ⟨w.heap.size, 1, none⟩ (.slice ca r.rs.length cc) := ⟨_, rfl⟩
  have hz2 : w.heap.size < w2.heap.size := by have := HSB.out; have := E2.size; omega
  have hz3 : w2.heap.size ≤ w3.heap.size := E3.size
  have B5 : Box w5 w.heap.size 34 [.int .i64 r.fr, .slice ca r.rs.length cc] := by rw [hw5]; exact B4.set 1 _
  have HT5 : Hid (Ver.OwnT 34 48 w5 w2.heap.size w3.heap.size l (.slice oa l.length oc)) := Lib.hid (by rw [hw5]; exact (HT3.out.ext E4).under hz2 _)
  have o5 : w5.ownsRow w3.heap.size 48 4 (.slice ca r.rs.length cc) r.rs.length (r.rs.flatMap Rul.enc) := by rw [hw5]; exact owns_setCell o4 (p := ⟨w.heap.size, 1, none⟩) (Nat.lt_of_lt_of_le hz2 hz3) _
  have E5 : Ext w w5 := by rw [hw5]; exact (Ext.trans EB3 E4).setCell (Nat.le_refl _) _
  have HSR := Lib.hid (searchVersion_ok 23 l r _ (.slice ca r.rs.length cc) w5 enters_putC (fun x sv w' hx hE => putC_ok x r sv _ w' hx (Ver.At.mono hE (Reads.of_owns o5))) HT5.out.own.rd (Reads.of_owns o5) hl (fun i j x y hij hx hy => goodVs_asc hg hx hy hij))
  have O5 := Lib.hid o5
  have HB5 := Lib.hid B5
  have HZ2 := Lib.hid hz2
  have HZ3 := Lib.hid hz3
  clear HT3 HB3 o4 B4 B5 o5 hz2 hz3
  go_upto_region 5 with fail
  rw [← hw5]
  clear hw5 d1 g1
  have b0 := HB5.out.cell 0 rfl
  have b1 := HB5.out.cell 1 rfl
  go_wp2_with fail
  refine HSR.out.mono ?_
  rintro e w6 ⟨k, rfl, hkl, hlo, hhi, E6⟩
  clear HSR b0 b1
  obtain ⟨fd, hfd⟩ : ∃ b, ((l[k]?).any fun x => x.fr == r.fr) = b := ⟨_, rfl⟩
  rw [hfd]
  have HFD := Lib.hid hfd
  have HLO := Lib.hid hlo
  have HHI := Lib.hid hhi
  have E6' := Ext.trans E5 E6
  have HB6 := Lib.hid (Box.ext E6 HB5.out)
  have HT6 := Lib.hid ((HT5.out.ext E6).mono (Nat.le_of_lt HZ2.out))
  have O6 := Lib.hid (Ext.owns E6 O5.out)
  have b0 := HB6.out.cell 0 rfl
  have b1 := HB6.out.cell 1 rfl
  have n0 : (0 : Int) ≤ (k : Int) := by omega
  have hln := goodVs_len hg
  have hpl : (putL l r).length ≤ 1048576 := by have := putL_len l r; omega
  have hpm : ∀ p ∈ putL l r, p.rs.length ≤ 1048576 := fun p hp => by
    rcases putL_mem hp with h | h
    · exact HLL.out p h
    · rw [h]; exact hr
  have HPM := Lib.hid hpm
  clear hfd hlo hhi hpm HT5 O5 HB5
  cases fd
  case true =>
    obtain ⟨hkl2, hput⟩ := putL_hit hg HFD.out
    obtain ⟨g, cap, hs, hbg⟩ := HT6.out.own.addr (by omega)
    simp only [Value.slice.injEq] at hs
    obtain ⟨rfl, _, rfl⟩ := hs
    obtain ⟨x, hx⟩ := get_of_lt hkl2
    obtain ⟨hf, _, _, hc⟩ := HT6.out.own.cells hx
    have c0 := hc 0 _ rfl
    have c1 := hc 1 _ rfl
    have f0 := hf (k * 2)
    have f1 := hf (k * 2 + 1)
    simp only [Nat.add_zero] at c0
    obtain ⟨w7, hw7⟩ : ∃ x, x = (w6.setCell ⟨g, k * 2, none⟩ (.int .i64 r.fr)).setCell ⟨g, k * 2 + 1, none⟩ (.slice ca r.rs.length cc) := ⟨_, rfl⟩
    have HP7 : Hid (Ver.OwnX 34 48 w7 w.heap.size (putL l r) (.slice (some ⟨g, 0, none⟩) l.length oc)) := Lib.hid (by rw [hw7, hput]; exact HT6.out.put (by decide) hkl2 O6.out (Nat.le_of_lt (Nat.lt_of_lt_of_le HZ2.out HZ3.out)))
    have E7 : Ext w w7 := by rw [hw7]; exact (E6'.setCell (p := ⟨g, k * 2, none⟩) hbg _).setCell (p := ⟨g, k * 2 + 1, none⟩) hbg _
    have HA := Lib.hid (areVersions_ok (putL l r) _ w7 HP7.out.rd hpl HPM.out)
    have n1 : (k : Int) < (l.length : Int) := by omega
    clear hx hf hc hput
    go_upto_region 9 with fail
    rw [← hw7]
    clear hw7 c0 c1 f0 f1 b0 b1
    go_wp2_with fail
    refine HA.out.mono ?_
    rintro e w9 ⟨rfl, E9⟩
    clear HA
    have E9' := Ext.trans E7 E9
    cases hb : goodVs (putL l r)
    case false =>
      have HN : Hid (X = none) := Lib.hid (by rw [← HX.out]; exact putO_no hb)
      go_wp2
      go_ret2
      rw [HN.out]
      exact ⟨_, rfl, Ver.OwnX.nil _ _ _ _, E9'⟩
    have HR : Hid (X = some (putL l r)) := Lib.hid (by rw [← HX.out]; exact putO_yes hg hb)
    have HP9 := Lib.hid (HP7.out.ext E9)
    go_wp2
    go_ret2
    rw [HR.out]
    exact ⟨_, rfl, HP9.out, E9'⟩
  case false =>
    have hput := putL_miss hg HLO.out HHI.out HFD.out
    obtain ⟨w7, hw7⟩ : ∃ x, x = w6.alloc (.cells #[.int .i64 r.fr, .slice ca r.rs.length cc] 34) := ⟨_, rfl⟩
    have E7 : Ext w6 w7 := by rw [hw7]; exact (Ext.refl w6).alloc _
    have HB7 : Hid (Box w7 w6.heap.size 34 [.int .i64 r.fr, .slice ca r.rs.length cc]) := Lib.hid (Box.of_new hw7 rfl)
    obtain ⟨pl, h1, h2, h3, h4, h5⟩ := HT6.out.ext E7
    have o7 := E7.owns O6.out
    have hlen : pl.length = l.length := by have := congrArg List.length h1; simpa using this
    have HI := Lib.hid (insertVersion_ok w (pl.flatMap Ver.enc) [.int .i64 r.fr, .slice ca r.rs.length cc] pl.length k w6.heap.size _ w7 (Ext.trans E6' E7) h2 (by omega) (by omega) (fun u hu => by
      obtain ⟨p, hp, hu⟩ := List.mem_flatMap.1 hu
      exact Ver.one (Reads.of_owns (h3 p hp)) u hu) rfl (fun u hu => by
        simp only [List.mem_cons, List.not_mem_nil, or_false] at hu
        rcases hu with rfl | rfl <;> rfl) HB7.out (fun h => by
        obtain ⟨pl6, _, h26, _⟩ := HT6.out
        have := (h26.lt _ h).2
        omega))
    have HK : Hid (∀ v' w', w'.ownsRow w.heap.size 34 2 v' (pl.length + 1) ((pl.flatMap Ver.enc).take (k * 2) ++ ([.int .i64 r.fr, .slice ca r.rs.length cc] ++ (pl.flatMap Ver.enc).drop (k * 2))) → w7.grownBy w' (Value.ownBlock (.slice oa l.length oc)) → Ver.OwnX 34 48 w' w.heap.size (putL l r) v') := Lib.hid fun v' w' hr' G => by
      rw [hput, ← h1]
      exact Ver.OwnX.ins (by decide) h2 h3 h4 G (owns_mono o7 (Nat.le_of_lt (Nat.lt_of_lt_of_le HZ2.out HZ3.out))) (fun p hp b hb1 hb2 => by
        have := h5 p hp b hb2
        have := (o7.lt b hb1).1
        omega) (by omega) hr'
    clear h1 h2 h3 h4 h5 o7 hput
    go_wp2_with fail
    rw [← hw7]
    clear hw7 b0 b1
    refine HI.out.mono ?_
    rintro e w8 ⟨v8, rfl, o8, E8, G8⟩
    have HP8 := Lib.hid (HK.out v8 w8 o8 G8)
    clear HI HK o8 G8
    obtain ⟨pa, pc, hps⟩ := HP8.out.rd.shape
    subst hps
    have HA := Lib.hid (areVersions_ok (putL l r) _ w8 HP8.out.rd hpl HPM.out)
    go_wp2_with fail
    refine HA.out.mono ?_
    rintro e w9 ⟨rfl, E9⟩
    clear HA
    have E9' := Ext.trans E8 E9
    cases hb : goodVs (putL l r)
    case false =>
      have HN : Hid (X = none) := Lib.hid (by rw [← HX.out]; exact putO_no hb)
      go_wp2
      go_ret2
      rw [HN.out]
      exact ⟨_, rfl, Ver.OwnX.nil _ _ _ _, E9'⟩
    have HR : Hid (X = some (putL l r)) := Lib.hid (by rw [← HX.out]; exact putO_yes hg hb)
    have HP9 := Lib.hid (HP8.out.ext E9)
    go_wp2
    go_ret2
    rw [HR.out]
    exact ⟨_, rfl, HP9.out, E9'⟩
end Go.Proofs.Ytankodjcccnjlaa
