/- What ChangedSeries computes, the program's and the reference's; no condition beyond the lengths that are named. -/
import Derived.Test.YtkbhonafbecbfaaVers
import Derived.Test.YtkbhonafbecbfaaChgData
import Derived.Test.YtkbhonafbecbfaaRulEq
import Derived.Test.YtkbhonafbecbfaaSeriesIn
import Derived.Test.YtkbhonafbecbfaaSortI
import Derived.Test.YtkbhonafbecbfaaSlDInt
import Derived.Test.YtkbhonafbecbfaaAppR
import Derived.Test.YtkbhonafbecbfaaBoxL
import Derived.Test.YtkbhonafbecbfaaStepA
import Derived.Shelf.Abstract
namespace Go.Proofs.Ytkbhonafbecbfaa
open Go.RowKit Go.Sort Go.Rd
theorem _root_.Go.Rd.step_appO {P : Program} {ops : Array Oper} {o : Oper} {a : Act} {w : World} {K : Act → World → Prop} {Q : Exit → Act → World → Prop} {E : Prop} (w0 : World)
    (hg : o.guard = none) (s x : Operand) (t : TypeId) (ho : o.op = .call { callee := .builtin .append, args := #[s, x], argTypes := #[t, t] })
    (e : TypeId) (z : Value) (size bytes : Nat) (ht : P.underlying t = some (.slice e)) (hinfo : (P.info? e).map (fun i => (i.zero, i.size, i.bytes)) = some (some z, size, bytes))
    (hzs : z.cells.size = size) (hsz : 0 < size) (hby : bytes ≤ 1000)
    (v : Value) (n : Nat) (xs : List Value) (hs : a.eval s = v) (hE : Ext w0 w) (hown : w.ownsRow w0.heap.size e size v n xs)
    (u : Value) (m : Nat) (ys : List Value) (hx : a.eval x = u) (hr : Reads w size u m ys) (h1 : ∀ y ∈ ys, y.oneCell' = true) (hn : n + m ≤ 4194304)
    (hK : ∀ v' w', w'.ownsRow w0.heap.size e size v' (n + m) (xs ++ ys) → Ext w0 w' → K (a.put o.dst v') w') :
    if Region.wanted o (yielded ops a.tmps) = true then Oper.wp P o a w K Q else E := by
  obtain ⟨h0, a', cap', rfl, h2⟩ := hr
  rcases h2 with rfl | ⟨b, off, rfl, hc⟩
  · have hy : ys = [] := List.eq_nil_of_length_eq_zero (by simpa using h0)
    subst hy
    cases a' with
    | none => exact step_app0 w0.heap.size hg s x t ho e z size bytes ht hinfo v n xs hs hown cap' hx (hK v w (by simpa using hown) hE)
    | some ad => exact step_appN w0 hg s x t ho e z size bytes ht hinfo hzs hsz hby v n xs hs hE hown ad 0 cap' [] hx (by simp) (by simp) (by simp) hn (fun v' w' q1 q2 _ => hK v' w' q1 q2)
  · exact step_appN w0 hg s x t ho e z size bytes ht hinfo hzs hsz hby v n xs hs hE hown ⟨b, off, none⟩ m cap' ys hx h0 (fun j y hj => by
      have hq := (hc j (by have := (List.getElem?_eq_some_iff.1 hj).1; omega)).trans hj
      have hadd : (⟨b, off, none⟩ : Addr).add j = ⟨b, off + j, none⟩ := by first | rfl | simp [Addr.add]
      rw [hadd]; exact hq) h1 hn (fun v' w' q1 q2 _ => hK v' w' q1 q2)
theorem goodR_len {l : List Rul} (h : goodR l = true) : l.length ≤ 8 := by
  simp only [goodR, Bool.and_eq_true, decide_eq_true_eq] at h
  exact h.2
set_option maxHeartbeats 4000000 in
theorem specChangedSeries_ok (l : List Ver) (ver : Int) (v : Value) (w : World) (hv : Ver.Rd w v l) (hl : l.length ≤ 1048576) (hll : ∀ p ∈ l, p.rs.length ≤ 1048576) :
    Calls Try.prog 48 #[v, .int .i64 ver] w (RetReadB w 1 (chgL l ver).length ((chgL l ver).flatMap Go.Rd.encI) (chgOk l ver)) := by
  have e0 : Ext w (w.alloc (.cells #[] 3)) := (Ext.refl w).alloc _
  obtain ⟨a, cap, rfl⟩ := hv.shape
  have HL := Lib.hid hll
  obtain ⟨N, hN⟩ : ∃ N, chgL l ver = N := ⟨_, rfl⟩
  have HY := Lib.hid (fun h => hN.symm.trans (chgL_yes (l := l) (v := ver) h))
  have HF := Lib.hid (fun h => hN.symm.trans (chgL_no (l := l) (v := ver) h))
  rw [hN]
  obtain ⟨ok, hok⟩ : ∃ ok, chgOk l ver = ok := ⟨_, rfl⟩
  have HOK := Lib.hid hok
  rw [hok] at HY HF ⊢
  clear hN hok hll
  go_enter Try.func48, Try.ntmps48
  go_wp2_with fail
  refine (l8Good_ok l _ _ (hv.mono e0) hl HL.out).mono ?_
  rintro e w1 ⟨rfl, E1⟩
  have E1' := Ext.trans e0 E1
  cases h1 : goodVs l
  case false =>
    obtain rfl : ok = false := by rw [← HOK.out, chgOk, h1]; rfl
    obtain rfl := HF.out rfl
    go_wp2
    go_ret2
    exact ⟨_, rfl, (OutR.empty w w 3 1 _).reads.mono E1', E1'⟩
  go_wp2_with fail
  refine (l1In_ok ver 1 ((l.length : Int) - 1) _).mono ?_
  rintro e w' ⟨rfl, rfl⟩
  cases h2 : inB ver 1 ((l.length : Int) - 1)
  case false =>
    obtain rfl : ok = false := by rw [← HOK.out, chgOk, h1, h2]; rfl
    obtain rfl := HF.out rfl
    go_wp2
    go_ret2
    exact ⟨_, rfl, (OutR.empty w w 3 1 _).reads.mono E1', E1'⟩
  obtain rfl : ok = true := by rw [← HOK.out, chgOk, h1, h2]; rfl
  have hvb := inB_true.1 h2
  obtain ⟨ub, hub⟩ := get_of_lt (show (ver - 1).toNat < l.length by omega)
  obtain ⟨uo, huo⟩ := get_of_lt (show ver.toNat < l.length by omega)
  have HN := Lib.hid ((HY.out rfl).trans (by rw [rulesAt_at hub, rulesAt_at huo]))
  have hgb := (okV_parts (goodVs_mem h1 (List.mem_of_getElem? hub))).2
  have hgo := (okV_parts (goodVs_mem h1 (List.mem_of_getElem? huo))).2
  have hbl := HL.out ub (List.mem_of_getElem? hub)
  have hol := HL.out uo (List.mem_of_getElem? huo)
  rw [show (ver - 1).toNat = ver.toNat - 1 by omega] at hub
  obtain ⟨b, off, rfl⟩ := Ver.Rd.addr (hv.mono E1') (by omega)
  obtain ⟨cb, ccb, cb0, cb1, hatb⟩ := Ver.Rd.cells (hv.mono E1') hub
  obtain ⟨co, cco, co0, co1, hato⟩ := Ver.Rd.cells (hv.mono E1') huo
  have n1 : ver - 1 < (l.length : Int) := by omega
  have n2 : (1 : Int) ≤ ver := by omega
  have n3 : (0 : Int) ≤ ver - 1 := by omega
  have n4 : IntKind.i64.wrap (ver - 1) = ver - 1 := IntWalk.i64_in _ (by have := goodVs_len h1; omega)
  have n5 : (ver - 1).toNat = ver.toNat - 1 := by omega
  have n6 : ver < (l.length : Int) := by omega
  have n7 : (0 : Int) ≤ ver := by omega
  have hl5 := goodVs_len h1
  clear HY HF HOK h1 h2 hub huo cb0 co0 hgb hgo
  go_wp2
  go_loopw [6, 7] (fun out i wr => ∃ k : Nat, k ≤ 99 ∧ i = .int .i64 ((k : Int) + 1) ∧ OutR w1 wr 3 1 out (chgK ub.rs uo.rs k).length ((chgK ub.rs uo.rs k).flatMap Go.Rd.encI) ∧ Ext w1 wr) (fun _ i _ => 100 - (intOf i).toNat)
  case atStart => exact ⟨0, Nat.zero_le _, rfl, by rw [chgK_zero]; exact OutR.empty _ _ _ _ _, Ext.refl _⟩
  case round =>
    obtain ⟨k, hk, rfl, ho, hE⟩ := hrel
    have hE' := Ext.trans E1' hE
    by_cases hlt : k < 99
    · have hflen := chgK_len ub.rs uo.rs k
      have hatb2 := hatb.mono hE
      have hato2 := hato.mono hE
      have HS : Hid (∀ w', Ext wr w' → (w'.cell? ⟨b, off + (ver.toNat - 1) * 2 + 1, none⟩ = some (.slice cb ub.rs.length ccb) ∧ w'.cell? ⟨b, off + ver.toNat * 2 + 1, none⟩ = some (.slice co uo.rs.length cco))) := Lib.hid fun w' h => ⟨(Ext.trans hE h).cell cb1, (Ext.trans hE h).cell co1⟩
      have HFL := Lib.hid (Nat.le_trans (forR_length ub.rs ((k : Int) + 1)) hbl)
      obtain ⟨c, hc⟩ : ∃ c, same ub.rs uo.rs ((k : Int) + 1) = c := ⟨_, rfl⟩
      have HC := Lib.hid hc
      have HC2 : Hid (decide (forR ub.rs ((k : Int) + 1) = forR uo.rs ((k : Int) + 1)) = c) := Lib.hid hc
      have HKY := Lib.hid (@chgK_yes ub.rs uo.rs k)
      have HKN := Lib.hid (@chgK_no ub.rs uo.rs k)
      clear hc
      go_upto_region 7 with fail
      go_cut [41] (fun z wx => z = .bool (!c) ∧ Ext wr wx)
      case first =>
        go_region_held3 (fun w' => w'.cell? ⟨b, off + (ver.toNat - 1) * 2 + 1, none⟩ = some (.slice cb ub.rs.length ccb) ∧ w'.cell? ⟨b, off + ver.toNat * 2 + 1, none⟩ = some (.slice co uo.rs.length cco)) (exact HS.out _ (by repeat' (first | exact Ext.refl _ | assumption | refine Ext.drew ?_ | refine Ext.alloc ?_ _ | refine Ext.setCell ?_ (by first | exact Nat.le_refl _ | exact Nat.le_succ _) _))) (first
          | (go_at_call 98; refine (l4For_ok ub.rs ((k : Int) + 1) _ _ ?_ hbl).mono ?_; (exact Reads.mono (by repeat' (first | exact Ext.refl _ | assumption | refine Ext.drew ?_ | refine Ext.alloc ?_ _ | refine Ext.setCell ?_ (by first | exact Nat.le_refl _ | exact Nat.le_succ _) _)) hatb2); rintro e wq1 ⟨vq1, rfl, oq1, Fq1⟩; have G1 : Ext wr wq1 := Ext.trans (by repeat' (first | exact Ext.refl _ | assumption | refine Ext.drew ?_ | refine Ext.alloc ?_ _ | refine Ext.setCell ?_ (by first | exact Nat.le_refl _ | exact Nat.le_succ _) _)) Fq1)
          | (go_at_call 98; refine (l4For_ok uo.rs ((k : Int) + 1) _ _ ?_ hol).mono ?_; (exact Reads.mono (by repeat' (first | exact Ext.refl _ | assumption | refine Ext.drew ?_ | refine Ext.alloc ?_ _ | refine Ext.setCell ?_ (by first | exact Nat.le_refl _ | exact Nat.le_succ _) _)) hato2); rintro e wq2 ⟨vq2, rfl, oq2, Fq2⟩; have G2 : Ext wr wq2 := Ext.trans (by repeat' (first | exact Ext.refl _ | assumption | refine Ext.drew ?_ | refine Ext.alloc ?_ _ | refine Ext.setCell ?_ (by first | exact Nat.le_refl _ | exact Nat.le_succ _) _)) Fq2)
          | (go_at_call 97; refine (l8Same_ok (forR ub.rs ((k : Int) + 1)) (forR uo.rs ((k : Int) + 1)) _ _ _ ?_ ?_ HFL.out).mono ?_; (exact Reads.of_owns (Ext.owns Fq2 oq1)); (exact Reads.of_owns oq2); rw [HC2.out]; rintro e wq3 ⟨rfl, Fq3⟩; have G3 : Ext wr wq3 := Ext.trans G2 Fq3))
        all_goals (try go_wp2)
        all_goals go_meet
        all_goals exact ⟨rfl, G3⟩
      case rest =>
      obtain ⟨rfl, E5⟩ := hcut
      have hE5 := Ext.trans hE E5
      have ho5 := OutR.ext E5 ho
      cases c
      case true =>
        have HK := Lib.hid (HKN.out HC.out)
        go_wp2
        go_roundw
        case rel => exact ⟨k + 1, by omega, by go_num, by rw [HK.out]; exact ho5, hE5⟩
        case measure => simp [intOf]; omega
      have HK := Lib.hid (HKY.out HC.out)
      go_wp2_with (at_builtin; refine wpl_appendR w1 _ rfl _ _ 67 rfl 3 _ 1 8 Try.underlying67 Try.infoInt rfl (by decide) (by decide) _ _ _ hE5 ho5 ?c1 [.int .i64 (((k : Int) + 1))] rfl rfl rfl (encI_one _) ?_)
      case c1 => omega
      intro v' w6 o6 E6 _
      go_wp2
      go_roundw
      case rel => exact ⟨k + 1, by omega, by go_num, by rw [HK.out]; simpa [Go.Rd.encI] using o6, E6⟩
      case measure => simp [intOf]; omega
    · have HE : Hid (chgK ub.rs uo.rs k = N) := Lib.hid (by rw [show k = 99 by omega]; exact HN.out.symm)
      rw [HE.out] at ho
      have h99 : k = 99 := by omega
      subst h99
      go_wp2
      go_ret2
      exact ⟨_, rfl, ho.reads, hE'⟩
set_option maxHeartbeats 4000000 in
theorem changed1_ok (lb lo : List Rul) (x : Int) (vb vo : Value) (g h : Nat) (w : World) (hb : Reads w 4 vb lb.length (lb.flatMap Rul.enc)) (ho : Reads w 4 vo lo.length (lo.flatMap Rul.enc)) (hbl : lb.length ≤ 1048576) (hol : lo.length ≤ 1048576)
    (cg : w.cell? ⟨g, 0, none⟩ = some vb) (ch : w.cell? ⟨h, 0, none⟩ = some vo) :
    Calls Try.prog 104 #[.int .i64 x, .pointer (some ⟨g, 0, none⟩), .pointer (some ⟨h, 0, none⟩)] w fun e w' => e = .returned (.bool (same lb lo x)) ∧ Ext w w' := by
  obtain ⟨ab, cpb, rfl⟩ := hb.shape
  obtain ⟨ao, cpo, rfl⟩ := ho.shape
  have HS : Hid (∀ w', Ext w w' → (w'.cell? ⟨g, 0, none⟩ = some (.slice ab lb.length cpb) ∧ w'.cell? ⟨h, 0, none⟩ = some (.slice ao lo.length cpo))) := Lib.hid fun w' h => ⟨h.cell cg, h.cell ch⟩
  have HFL := Lib.hid (Nat.le_trans (forR_length lb x) hbl)
  obtain ⟨c, hc⟩ : ∃ c, same lb lo x = c := ⟨_, rfl⟩
  have HC2 : Hid (decide (forR lb x = forR lo x) = c) := Lib.hid hc
  rw [hc]
  clear hc cg ch
  go_enter Try.func104, Try.ntmps104
  go_wp2
  go_region_held3 (fun w' => w'.cell? ⟨g, 0, none⟩ = some (.slice ab lb.length cpb) ∧ w'.cell? ⟨h, 0, none⟩ = some (.slice ao lo.length cpo)) (exact HS.out _ (by repeat' (first | exact Ext.refl _ | assumption | refine Ext.drew ?_ | refine Ext.alloc ?_ _ | refine Ext.setCell ?_ (by first | exact Nat.le_refl _ | exact Nat.le_succ _) _))) (first
    | (go_at_call 106; refine (rulesFor_ok lb x _ _ ?_ hbl).mono ?_; (exact Reads.mono (by repeat' (first | exact Ext.refl _ | assumption | refine Ext.drew ?_ | refine Ext.alloc ?_ _ | refine Ext.setCell ?_ (by first | exact Nat.le_refl _ | exact Nat.le_succ _) _)) hb); rintro e wq1 ⟨vq1, rfl, oq1, Fq1⟩; have G1 : Ext w wq1 := Ext.trans (by repeat' (first | exact Ext.refl _ | assumption | refine Ext.drew ?_ | refine Ext.alloc ?_ _ | refine Ext.setCell ?_ (by first | exact Nat.le_refl _ | exact Nat.le_succ _) _)) Fq1)
    | (go_at_call 106; refine (rulesFor_ok lo x _ _ ?_ hol).mono ?_; (exact Reads.mono (by repeat' (first | exact Ext.refl _ | assumption | refine Ext.drew ?_ | refine Ext.alloc ?_ _ | refine Ext.setCell ?_ (by first | exact Nat.le_refl _ | exact Nat.le_succ _) _)) ho); rintro e wq2 ⟨vq2, rfl, oq2, Fq2⟩; have G2 : Ext w wq2 := Ext.trans (by repeat' (first | exact Ext.refl _ | assumption | refine Ext.drew ?_ | refine Ext.alloc ?_ _ | refine Ext.setCell ?_ (by first | exact Nat.le_refl _ | exact Nat.le_succ _) _)) Fq2)
    | (go_at_call 105; refine (equalRule_ok (forR lb x) (forR lo x) _ _ _ ?_ ?_ HFL.out).mono ?_; (exact Reads.of_owns (Ext.owns Fq2 oq1)); (exact Reads.of_owns oq2); rw [HC2.out]; rintro e wq3 ⟨rfl, Fq3⟩; have G3 : Ext w wq3 := Ext.trans G2 Fq3))
  all_goals (try go_wp2)
  all_goals go_ret
  all_goals exact ⟨rfl, G3⟩
theorem enters_changed1 : ∀ args w, (callFunc 104 args).run Try.prog w = .ok (.enter 104 args) w := enters_of Try.func104 (by kernel_rfl) rfl
set_option maxRecDepth 4000 in
set_option maxHeartbeats 8000000 in
theorem changedSeries_ok (l : List Ver) (ver : Int) (v : Value) (w : World) (hv : Ver.Rd w v l) (hl : l.length ≤ 1048576) (hll : ∀ p ∈ l, p.rs.length ≤ 1048576) :
    Calls Try.prog 49 #[v, .int .i64 ver] w (RetOwnB w 3 1 (chgL l ver).length ((chgL l ver).flatMap Go.Rd.encI) (chgOk l ver)) := by
  obtain ⟨a, cap, rfl⟩ := hv.shape
  have HL := Lib.hid hll
  obtain ⟨N, hN⟩ : ∃ N, chgL l ver = N := ⟨_, rfl⟩
  have HY := Lib.hid (fun h => hN.symm.trans (chgL_yes (l := l) (v := ver) h))
  have HF := Lib.hid (fun h => hN.symm.trans (chgL_no (l := l) (v := ver) h))
  rw [hN]
  obtain ⟨ok, hok⟩ : ∃ ok, chgOk l ver = ok := ⟨_, rfl⟩
  have HOK := Lib.hid hok
  rw [hok] at HY HF ⊢
  clear hN hok hll
  go_enter Try.func49, Try.ntmps49
  go_wp2_with fail
  refine (areVersions_ok l _ _ hv hl HL.out).mono ?_
  rintro e w1 ⟨rfl, E1⟩
  have E1' := E1
  cases h1 : goodVs l
  case false =>
    obtain rfl : ok = false := by rw [← HOK.out, chgOk, h1]; rfl
    obtain rfl := HF.out rfl
    go_wp2
    go_ret2
    exact ⟨_, rfl, World.ownsRow_nil _ _ _ _, E1'⟩
  go_wp2_with fail
  refine (within_ok ver 1 ((l.length : Int) - 1) _).mono ?_
  rintro e w' ⟨rfl, rfl⟩
  cases h2 : inB ver 1 ((l.length : Int) - 1)
  case false =>
    obtain rfl : ok = false := by rw [← HOK.out, chgOk, h1, h2]; rfl
    obtain rfl := HF.out rfl
    go_wp2
    go_ret2
    exact ⟨_, rfl, World.ownsRow_nil _ _ _ _, E1'⟩
  obtain rfl : ok = true := by rw [← HOK.out, chgOk, h1, h2]; rfl
  have hvb := inB_true.1 h2
  obtain ⟨ub, hub⟩ := get_of_lt (show (ver - 1).toNat < l.length by omega)
  obtain ⟨uo, huo⟩ := get_of_lt (show ver.toNat < l.length by omega)
  have HN := Lib.hid ((HY.out rfl).trans (by rw [rulesAt_at hub, rulesAt_at huo]))
  have hgb := (okV_parts (goodVs_mem h1 (List.mem_of_getElem? hub))).2
  have hgo := (okV_parts (goodVs_mem h1 (List.mem_of_getElem? huo))).2
  have hbl := HL.out ub (List.mem_of_getElem? hub)
  have hol := HL.out uo (List.mem_of_getElem? huo)
  rw [show (ver - 1).toNat = ver.toNat - 1 by omega] at hub
  obtain ⟨b, off, rfl⟩ := Ver.Rd.addr (hv.mono E1') (by omega)
  obtain ⟨cb, ccb, cb0, cb1, hatb⟩ := Ver.Rd.cells (hv.mono E1') hub
  obtain ⟨co, cco, co0, co1, hato⟩ := Ver.Rd.cells (hv.mono E1') huo
  have n1 : ver - 1 < (l.length : Int) := by omega
  have n2 : (1 : Int) ≤ ver := by omega
  have n3 : (0 : Int) ≤ ver - 1 := by omega
  have n4 : IntKind.i64.wrap (ver - 1) = ver - 1 := IntWalk.i64_in _ (by have := goodVs_len h1; omega)
  have n5 : (ver - 1).toNat = ver.toNat - 1 := by omega
  have n6 : ver < (l.length : Int) := by omega
  have n7 : (0 : Int) ≤ ver := by omega
  have hl5 := goodVs_len h1
  have HEQ := Lib.hid (chg_eq hgb hgo)
  have hb8 := goodR_len hgb
  have ho8 := goodR_len hgo
  have HS : Hid (∀ w', Ext w1 w' → (w'.cell? ⟨b, off + (ver.toNat - 1) * 2 + 1, none⟩ = some (.slice cb ub.rs.length ccb) ∧ w'.cell? ⟨b, off + ver.toNat * 2 + 1, none⟩ = some (.slice co uo.rs.length cco))) := Lib.hid fun w' h => ⟨h.cell cb1, h.cell co1⟩
  clear HY HF HOK h1 h2 hub huo cb0 co0 hgb hgo cb1 co1
  go_upto_region 3 with fail
  go_cut [6, 7] (fun p q wx => ∃ g h : Nat, p = .pointer (some ⟨g, 0, none⟩) ∧ q = .pointer (some ⟨h, 0, none⟩) ∧ wx.cell? ⟨g, 0, none⟩ = some (.slice cb ub.rs.length ccb) ∧ wx.cell? ⟨h, 0, none⟩ = some (.slice co uo.rs.length cco) ∧ Ext w1 wx)
  case first =>
    go_region_held3 (fun w' => w'.cell? ⟨b, off + (ver.toNat - 1) * 2 + 1, none⟩ = some (.slice cb ub.rs.length ccb) ∧ w'.cell? ⟨b, off + ver.toNat * 2 + 1, none⟩ = some (.slice co uo.rs.length cco)) (exact HS.out _ (by repeat' (first | exact Ext.refl _ | assumption | refine Ext.drew ?_ | refine Ext.alloc ?_ _ | refine Ext.setCell ?_ (by first | exact Nat.le_refl _ | exact Nat.le_succ _) _))) (fail)
    all_goals (try go_wp2)
    all_goals go_meet
    all_goals exact ⟨_, _, rfl, rfl, by simp, by simp, (by repeat' (first | exact Ext.refl _ | assumption | refine Ext.drew ?_ | refine Ext.alloc ?_ _ | refine Ext.setCell ?_ (by first | exact Nat.le_refl _ | exact Nat.le_succ _) _))⟩
  case rest =>
  obtain ⟨g, h, rfl, rfl, yg, yh, E2⟩ := hcut
  have E2' := Ext.trans E1' E2
  have hatb2 := hatb.mono E2
  have hato2 := hato.mono E2
  obtain ⟨w2, hw2⟩ : ∃ w', w' = wc := ⟨_, rfl⟩
  subst hw2
  have HSG : Hid (∀ w', Ext w2 w' → (w'.cell? ⟨g, 0, none⟩ = some (.slice cb ub.rs.length ccb) ∧ w'.cell? ⟨h, 0, none⟩ = some (.slice co uo.rs.length cco))) := Lib.hid fun w' hh => ⟨hh.cell yg, hh.cell yh⟩
  have hsb := sIn_length ub.rs
  have hso := sIn_length uo.rs
  go_upto_region 4 with fail
  go_cut [8] (fun al wx => wx.ownsRow w2.heap.size 3 1 al (sIn ub.rs ++ sIn uo.rs).length ((sIn ub.rs ++ sIn uo.rs).flatMap Go.Rd.encI) ∧ Ext w2 wx)
  case first =>
    go_region_held3 (fun w' => w'.cell? ⟨g, 0, none⟩ = some (.slice cb ub.rs.length ccb) ∧ w'.cell? ⟨h, 0, none⟩ = some (.slice co uo.rs.length cco)) (exact HSG.out _ (by repeat' (first | exact Ext.refl _ | assumption | refine Ext.drew ?_ | refine Ext.alloc ?_ _))) (first
      | (go_at_call 100; refine (seriesIn_ok ub.rs _ _ ?_ hbl).mono ?_; (exact Reads.mono (by repeat' (first | exact Ext.refl _ | assumption | refine Ext.drew ?_ | refine Ext.alloc ?_ _)) hatb2); rintro e wq1 ⟨vq1, rfl, oq1, Fq1⟩; have G1 : Ext w2 wq1 := Ext.trans (by repeat' (first | exact Ext.refl _ | assumption | refine Ext.drew ?_ | refine Ext.alloc ?_ _)) Fq1; have K1 : wq1.ownsRow w2.heap.size 3 1 vq1 (sIn ub.rs).length ((sIn ub.rs).flatMap Go.Rd.encI) := owns_mono oq1 (by refine Below.size (B := w2.heap.size) (w := w2) ?_; repeat' (first | exact Ext.refl _ | assumption | refine Ext.drew ?_ | refine Ext.alloc ?_ _)))
      | (go_at_call 100; refine (seriesIn_ok uo.rs _ _ ?_ hol).mono ?_; (exact Reads.mono (by repeat' (first | exact Ext.refl _ | assumption | refine Ext.drew ?_ | refine Ext.alloc ?_ _)) hato2); rintro e wq2 ⟨vq2, rfl, oq2, Fq2⟩; have G2 : Ext w2 wq2 := Ext.trans (by repeat' (first | exact Ext.refl _ | assumption | refine Ext.drew ?_ | refine Ext.alloc ?_ _)) Fq2; have K2 : wq2.ownsRow w2.heap.size 3 1 vq2 (sIn uo.rs).length ((sIn uo.rs).flatMap Go.Rd.encI) := owns_mono oq2 (by refine Below.size (B := w2.heap.size) (w := w2) ?_; repeat' (first | exact Ext.refl _ | assumption | refine Ext.drew ?_ | refine Ext.alloc ?_ _)))
      | (refine step_appO w2 rfl (.tmp 32) (.tmp 34) 67 rfl 3 _ 1 8 Try.underlying67 Try.infoInt rfl (by decide) (by decide) _ _ _ rfl (by repeat' (first | exact Ext.refl _ | assumption | refine Ext.drew ?_ | refine Ext.alloc ?_ _)) (by first | exact K1 | exact Ext.owns Fq2 K1) _ _ _ rfl (by first | exact Reads.of_owns oq2 | exact Reads.mono Fq1 (Reads.of_owns oq2)) (flat_one Go.Rd.encI_one _) (by omega) ?_; intro v3 w3 o3 E3))
    all_goals (try go_wp2)
    all_goals go_meet
    all_goals exact ⟨by rw [List.length_append, List.flatMap_append]; exact o3, E3⟩
  case rest =>
  obtain ⟨oal, E3⟩ := hcut
  have hSl : (sIn ub.rs ++ sIn uo.rs).length ≤ 1048576 := by rw [List.length_append]; omega
  go_wp2_with fail
  refine (sortInts_ok w2.heap.size (sIn ub.rs ++ sIn uo.rs) _ _ oal hSl).mono ?_
  rintro e w5 ⟨rfl, o5, B5⟩
  go_wp2_with fail
  refine (compactInts_ok w2.heap.size (sortL (sIn ub.rs ++ sIn uo.rs)) _ _ o5 (by rw [sortL_len]; exact hSl)).mono ?_
  rintro e w6 ⟨v6, rfl, o6, B6⟩
  have E6 : Ext w2 w6 := Below.trans (Below.trans E3 B5) B6
  have HCL : (Lib.compact (sortL (sIn ub.rs ++ sIn uo.rs))).length ≤ 1048576 := Nat.le_trans (Lib.compact_length_le _) (by rw [sortL_len]; exact hSl)
  have HD := deleteFuncInt_ok w2.heap.size 104 #[.pointer (some ⟨g, 0, none⟩), .pointer (some ⟨h, 0, none⟩)] (fun s => same ub.rs uo.rs s) (Lib.compact (sortL (sIn ub.rs ++ sIn uo.rs))) v6 w6 enters_changed1 (fun x w' hh => changed1_ok ub.rs uo.rs x _ _ g h w' (hatb2.mono (Below.trans E6 hh : Ext w2 w')) (hato2.mono (Below.trans E6 hh : Ext w2 w')) hbl hol (HSG.out w' (Below.trans E6 hh)).1 (HSG.out w' (Below.trans E6 hh)).2) o6 HCL E6.size
  have HEQ2 : Hid (((Lib.compact (sortL (sIn ub.rs ++ sIn uo.rs))).filter fun s => !same ub.rs uo.rs s) = N) := Lib.hid (HEQ.out.trans HN.out.symm)
  rw [HEQ2.out] at HD
  clear hatb2 hato2 hsb hso
  go_wp2_with fail
  refine HD.mono ?_
  rintro e w7 ⟨v7, rfl, o7, B7⟩
  have E7 : Ext w1 w7 := Ext.trans E2 (Below.trans E6 B7)
  have E7' := Ext.trans E1' E7
  go_wp2
  go_ret2
  exact ⟨_, rfl, owns_mono o7 E2'.size, E7'⟩
end Go.Proofs.Ytkbhonafbecbfaa
