/- What the reference's ReleaseHold computes; no condition beyond the lengths that are named. -/
import Derived.Test.YtkbhonafbecbfaaRelData
import Derived.Test.YtkbhonafbecbfaaOwnL
import Derived.Test.YtkbhonafbecbfaaHoldsL
namespace Go.Proofs.Ytkbhonafbecbfaa
open Go.RowKit Go.Sort Go.Rd
set_option maxHeartbeats 4000000 in
theorem specReleaseHold_ok (l : List Hld) (id day : Int) (v : Value) (w : World) (hv : Hld.Rd w v l) (hl : l.length ≤ 1048576) (hll : ∀ r ∈ l, r.ss.length ≤ 1048576) :
    Calls Try.prog 10 #[v, .int .i64 id, .int .i64 day] w fun e w' => ∃ v', e = .returned (.tuple #[v', .bool (relO l id day).isSome]) ∧ Hld.Rd w' v' ((relO l id day).getD []) ∧ Ext w w' := by
  obtain ⟨X, hX⟩ : ∃ X, relO l id day = X := ⟨_, rfl⟩
  have HX := Lib.hid hX
  rw [hX]
  clear hX
  have HC : Hid (Calls Try.prog 51 #[v] w fun e w' => ∃ v', e = .returned v' ∧ Hld.OwnX 93 3 w' w.heap.size l v' ∧ Ext w w') := by
    obtain ⟨pl, hpl, hal⟩ := hv
    subst hpl
    exact l9Own_ok pl v w hal (by simpa using hl) (fun p hp => hll p.1 (List.mem_map_of_mem hp))
  have HV := Lib.hid hv
  obtain ⟨va, vc, hvs⟩ := hv.shape
  subst hvs
  have HLL := Lib.hid hll
  clear hv hll
  go_enter Try.func10, Try.ntmps10
  go_wp2_with fail
  refine HC.out.mono ?_
  rintro e w1 ⟨o, rfl, o1, E1⟩
  obtain ⟨oa, oc, ho⟩ := o1.rd.shape
  subst ho
  have HO := Lib.hid o1
  clear HC o1
  go_wp2
  go_loopw [9] (fun i wr => ∃ k : Nat, k ≤ l.length ∧ i = .int .i64 k ∧ Hid (∀ j y, j < k → l[j]? = some y → (goodHs l && relP id day y) = false) ∧ Ext w1 wr) (fun i _ => l.length - (intOf i).toNat)
  case atStart => exact ⟨0, Nat.zero_le _, rfl, Lib.hid fun j y h => by omega, Ext.refl _⟩
  case round =>
    obtain ⟨k, hk, rfl, HALL, hE⟩ := hrel
    by_cases hlt : k < l.length
    · obtain ⟨g, cap, hs, hbg⟩ := HO.out.addr (by omega)
      simp only [Value.slice.injEq] at hs
      obtain ⟨rfl, _, rfl⟩ := hs
      obtain ⟨r, hx⟩ := get_of_lt hlt
      obtain ⟨hf, sv, _, hc⟩ := (HO.out.ext hE).cells hx
      obtain ⟨⟨x0, x1, x2, la, x4, x5⟩, hr⟩ : ∃ y, r = y := ⟨_, rfl⟩
      subst hr
      have c0 := hc 0 _ rfl
      have c1 := hc 1 _ rfl
      have c2 := hc 2 _ rfl
      simp only [Nat.add_zero] at c0
      have HCE := Lib.hid hc
      have HX2 := Lib.hid hx
      clear hc hx hf
      have HNEXT : Hid ((goodHs l && relP id day ⟨x0, x1, x2, la, x4, x5⟩) = false → ∀ j y, j < k + 1 → l[j]? = some y → (goodHs l && relP id day y) = false) := Lib.hid fun h j y hj hy => by
        by_cases hjk : j < k
        · exact HALL.out j y hjk hy
        · obtain rfl : j = k := by omega
          have := HX2.out
          rw [hy] at this
          simp only [Option.some.injEq] at this
          rw [this]; exact h
      by_cases q1 : x0 = id
      case neg =>
        have HN := Lib.hid (HNEXT.out (by have : (x0 == id) = false := beq_eq_false_iff_ne.2 q1; simp [relP, this]))
        go_wp2
        go_roundw
        case rel => exact ⟨k + 1, by omega, by go_num, HN, hE⟩
        case measure => simp [intOf]; omega
      by_cases q2 : x2 = -1
      case neg =>
        have HN := Lib.hid (HNEXT.out (by have : (x2 == -1) = false := beq_eq_false_iff_ne.2 q2; simp [relP, this]))
        go_wp2
        go_roundw
        case rel => exact ⟨k + 1, by omega, by go_num, HN, hE⟩
        case measure => simp [intOf]; omega
      have HG := Lib.hid (l9Good_ok l _ wr (HV.out.mono (Ext.trans E1 hE)) hl HLL.out)
      go_wp2_with fail
      refine HG.out.mono ?_
      rintro e w2 ⟨rfl, E2⟩
      have hE2 := Ext.trans hE E2
      have d0 := E2.cell c0
      have d1 := E2.cell c1
      have d2 := E2.cell c2
      clear c0 c1 c2 HG
      cases hg : goodHs l
      case false =>
        have HN := Lib.hid (HNEXT.out (by rw [hg]; rfl))
        go_wp2
        go_roundw
        case rel => exact ⟨k + 1, by omega, by go_num, HN, hE2⟩
        case measure => simp [intOf]; omega
      have hfr := (okH_parts (goodHs_mem hg (List.mem_of_getElem? HX2.out))).2.1
      simp only at hfr
      have s1 : IntKind.i64.wrap (x1 + 1) = x1 + 1 := by rw [IntKind.wrap_i64]; omega
      go_wp2_with fail
      refine (l1In_ok day (x1 + 1) 20000 _).mono ?_
      rintro e w3 ⟨rfl, rfl⟩
      cases hb : inB day (x1 + 1) 20000
      case false =>
        have HN := Lib.hid (HNEXT.out (by simp [relP, hb]))
        go_wp2
        go_roundw
        case rel => exact ⟨k + 1, by omega, by go_num, HN, hE2⟩
        case measure => simp [intOf]; omega
      have HR : Hid (X = some (l.set k (setUn ⟨x0, x1, x2, la, x4, x5⟩ day))) := Lib.hid (by
        rw [← HX.out]
        exact relO_at hg HX2.out (by simp [relP, q1, q2, hb]) (fun j y hj hy => by have := HALL.out j y hj hy; rwa [hg, Bool.true_and] at this))
      have hO3 := HO.out.ext hE2
      obtain ⟨hf, _⟩ := hO3.cells HX2.out
      have f2 := hf (k * 6 + 2)
      have HF := Lib.hid (Hld.OwnX.field (by decide) hO3 HX2.out (j := 2) (r' := setUn ⟨x0, x1, x2, la, x4, x5⟩ day) (u := .int .i64 day) (by decide) (fun _ => rfl) rfl)
      have E3 := (Ext.trans E1 hE2).setCell (p := ⟨g, k * 6 + 2, none⟩) hbg (.int .i64 day)
      clear hf hO3
      go_wp2
      go_ret2
      rw [HR.out]
      exact ⟨_, rfl, HF.out.rd, E3⟩
    · have HN : Hid (X = none) := Lib.hid (by
        rw [← HX.out]
        cases hg : goodHs l
        · exact relO_bad hg
        · exact relO_none fun j y hy => by
            have := HALL.out j y (by have := (List.getElem?_eq_some_iff.1 hy).1; omega) hy
            rwa [hg, Bool.true_and] at this)
      go_wp2
      go_ret2
      rw [HN.out]
      exact ⟨_, rfl, ⟨[], rfl, Reads.of_owns (owns_empty wr wr.heap.size 93 6 (Nat.le_refl _)), fun p hp => by simp at hp⟩, (Ext.trans E1 hE).alloc _⟩
end Go.Proofs.Ytkbhonafbecbfaa
