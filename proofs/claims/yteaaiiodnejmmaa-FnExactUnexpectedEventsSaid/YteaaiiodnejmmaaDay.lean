/- What the program's and the reference's expected days compute; no condition beyond the lengths and lists that are named. -/
import Derived.Test.YteaaiiodnejmmaaCyc3
import Derived.Test.YteaaiiodnejmmaaDayData
import Derived.Lib.MinMax
namespace Go.Proofs.Yteaaiiodnejmmaa
open Go.RowKit Go.Sort Go.Rd

set_option maxHeartbeats 400000 in
theorem l1Most_ok (a b : Int) (w : World) : Calls Try.prog 67 #[.int .i64 a, .int .i64 b] w fun e w' => e = .returned (.int .i64 (max a b)) ∧ w = w' := by
  by_cases h : b < a
  · have HR : Hid (max a b = a) := (by omega : max a b = a)
    go_enter Try.func67, Try.ntmps67
    go_wp2
    go_ret
    exact ⟨ret_int HR.out.symm, rfl⟩
  · have HR : Hid (max a b = b) := (by omega : max a b = b)
    go_enter Try.func67, Try.ntmps67
    go_wp2
    go_ret
    exact ⟨ret_int HR.out.symm, rfl⟩
def optE (r : Option Int) : Value := .tuple #[.int .i64 (r.getD 0), .bool r.isSome]
theorem path_kind {l : List Trig} (hg : goodT l = true) (hn : firstCyc l = none) {q : List Int} {ev : Int} (hw : Walk l (q ++ [ev])) {k : Nat} {t : Trig} (hx : l[k]? = some t) (he : (t.ev == ev) = true) :
    0 ≤ t.af ∧ t.af ≤ 9 ∧ 0 ≤ t.dy ∧ t.dy ≤ 10000 ∧ Hid (Walk l (q ++ [ev] ++ [t.af])) ∧ Hid (1 ≤ t.af → avail (q ++ [ev] ++ [t.af]) < avail (q ++ [ev])) := by
  have hmem := List.mem_of_getElem? hx
  have hb := okT_bounds (goodT_mem hg hmem)
  have hf : follB l ev t.af = true := by
    unfold follB
    refine List.any_eq_true.2 ⟨t, hmem, ?_⟩
    rw [he]; simp
  obtain ⟨h1, h2⟩ := path_step hg hn hw hf
  exact ⟨hb.2.2.1, hb.2.2.2.1, hb.2.2.2.2.1, hb.2.2.2.2.2, Lib.hid h1, Lib.hid fun h => avail_lt h hb.2.2.2.1 h2⟩

set_option maxHeartbeats 2000000 in
theorem expected_ok (l : List Trig) (vl : Value) (hl : l.length ≤ 1048576) (hg : goodT l = true) (hn : firstCyc l = none) : ∀ (n : Nat) (q : List Int) (ev : Int) (w : World), n ≤ 20 → (ev = 0 ∨ avail (q ++ [ev]) + 1 < n) → 0 < n → Walk l (q ++ [ev]) →
    Reads w 3 vl l.length (l.flatMap Trig.enc) →
    Calls Try.prog 59 #[vl, .int .i64 ev] w fun e w' => e = .returned (optE (dayM n l ev)) ∧ Ext w w' := by
  intro n
  have HG := Lib.hid hg
  have HN := Lib.hid hn
  clear hg hn
  induction n with
  | zero => intro q ev w _ _ h; omega
  | succ n ih =>
    intro q ev w hn20 hav _ hwalk hvl
    have IH := Lib.hid ih
    have HW := Lib.hid hwalk
    clear ih hwalk
    cases he0 : (ev == 0)
    case true =>
      have HD := Lib.hid (dayM_zero (n := n) (l := l) he0)
      go_enter Try.func59, Try.ntmps59
      go_wp2
      go_ret2
      rw [HD.out]
      exact ⟨rfl, Ext.refl _⟩
    have HD := Lib.hid (dayM_pos (n := n) (l := l) he0)
    have hav2 : avail (q ++ [ev]) + 1 < n + 1 := by
      rcases hav with h | h
      · rw [h] at he0; simp at he0
      · exact h
    clear hav
    obtain ⟨a, cap, rfl⟩ := hvl.shape
    go_enter Try.func59, Try.ntmps59
    go_wp2
    go_loopw [6, 7, 9, 10, 11, 16] (fun la fo _ _ _ i wr => ∃ (k : Nat) (acc : Option Int), k ≤ l.length ∧ i = .int .i64 k ∧ la = .int .i64 (acc.getD 0) ∧ fo = .bool acc.isSome ∧ 0 ≤ acc.getD 0 ∧ acc.getD 0 ≤ 1000000 ∧ Hid (dayM (n + 1) l ev = dayStep (dayM n l) ev (l.drop k) acc) ∧ Ext w wr) (fun _ _ _ _ _ i _ => l.length - (intOf i).toNat)
    case atStart => exact ⟨0, none, Nat.zero_le _, rfl, rfl, rfl, by simp, by simp, Lib.hid (by rw [HD.out]; rfl), Ext.refl _⟩
    case round =>
      obtain ⟨k, acc, hk, rfl, rfl, rfl, ha1, ha2, HS, hE⟩ := hrel
      obtain ⟨A, hA⟩ : ∃ A, acc.getD 0 = A := ⟨_, rfl⟩
      obtain ⟨F, hF⟩ : ∃ F, acc.isSome = F := ⟨_, rfl⟩
      have HA := Lib.hid hA
      have HF := Lib.hid hF
      rw [hA] at ha1 ha2
      rw [hA, hF]
      clear hA hF
      by_cases hlt : k < l.length
      · have hv1 := hvl.mono hE
        obtain ⟨b, off, rfl, hc⟩ := Reads.elems Trig.enc_len hv1 (by omega)
        obtain ⟨⟨p1, p2, p3⟩, hx⟩ := get_of_lt hlt
        have c0 := hc k _ hx 0 _ rfl
        have c1 := hc k _ hx 1 _ rfl
        have c2 := hc k _ hx 2 _ rfl
        rw [Nat.add_zero] at c0
        have HX := Lib.hid hx
        have HDR := Lib.hid (drop_at hx)
        clear hc hx hv1
        cases he : (p1 == ev)
        case false =>
          have HK := Lib.hid (dayStep_skip (f := dayM n l) (ts := l.drop (k + 1)) (acc := acc) (t := ⟨p1, p2, p3⟩) he)
          go_wp2
          go_roundw
          case rel => exact ⟨k + 1, acc, by omega, by go_num, by rw [HA.out], by rw [HF.out], by rw [HA.out]; exact ha1, by rw [HA.out]; exact ha2, Lib.hid (by rw [HS.out, HDR.out, HK.out]), hE.alloc _⟩
          case measure => simp [intOf]; omega
        obtain ⟨f1, f2, f3, f4, HW2, HAV⟩ := path_kind HG.out HN.out HW.out HX.out he
        simp only at f1 f2 f3 f4
        have HC := IH.out (q ++ [ev]) p2 (wr.alloc (.cells #[.int .i64 p1, .int .i64 p2, .int .i64 p3] 58)) (by omega) (by
          by_cases h0 : p2 = 0
          · exact .inl h0
          · have := HAV.out (by simp only; omega); simp only at this; right; omega) (by omega) HW2.out (hvl.mono (hE.alloc _))
        go_wp2_with fail
        refine HC.mono ?_
        rintro e w2 ⟨rfl, E2⟩
        have E2' := Ext.trans (hE.alloc _) E2
        have k2 : w2.cell? ⟨wr.heap.size, 2, none⟩ = some (.int .i64 p3) := E2.cell (by simp)
        cases hd : dayM n l p2 with
        | none =>
          have HK := Lib.hid (dayStep_none (f := dayM n l) (ts := l.drop (k + 1)) (acc := acc) (t := ⟨p1, p2, p3⟩) he hd)
          clear hd
          unfold optE
          go_wp2
          go_ret2
          rw [HS.out, HDR.out, HK.out]
          exact ⟨rfl, E2'⟩
        | some d =>
          have HK := Lib.hid (dayStep_some (f := dayM n l) (ts := l.drop (k + 1)) (acc := acc) (t := ⟨p1, p2, p3⟩) he hd)
          obtain ⟨d1, d2⟩ := dayM_bounds HG.out hd
          have d3 : d ≤ 200000 := by omega
          clear hd d2
          unfold optE
          go_wp2
          go_roundw
          case rel => exact ⟨k + 1, some (max A (d + p3)), by omega, by go_num, rfl, rfl, by simp only [Option.getD_some]; omega, by simp only [Option.getD_some]; omega, Lib.hid (by rw [HS.out, HDR.out, HK.out, HA.out]), E2'⟩
          case measure => simp [intOf]; omega
      · have HR : Hid (dayM (n + 1) l ev = acc) := (by rw [HS.out, List.drop_of_length_le (by omega)]; rfl : dayM (n + 1) l ev = acc)
        go_wp2
        go_ret2
        rw [HR.out]
        unfold optE
        rw [HA.out, HF.out]
        exact ⟨rfl, hE⟩
/-- The reference's form: -1 where the day is not expected. -/
def negD (r : Option Int) : Int := r.getD (-1)
set_option maxHeartbeats 2000000 in
theorem l10Day_ok (l : List Trig) (vl : Value) (hl : l.length ≤ 1048576) (hg : goodT l = true) (hn : firstCyc l = none) : ∀ (n : Nat) (q : List Int) (ev : Int) (w : World), n ≤ 20 → (ev = 0 ∨ avail (q ++ [ev]) + 1 < n) → 0 < n → Walk l (q ++ [ev]) →
    Reads w 3 vl l.length (l.flatMap Trig.enc) →
    Calls Try.prog 57 #[vl, .int .i64 ev] w fun e w' => e = .returned (.int .i64 (negD (dayM n l ev))) ∧ w = w' := by
  intro n
  have HG := Lib.hid hg
  have HN := Lib.hid hn
  clear hg hn
  induction n with
  | zero => intro q ev w _ _ h; omega
  | succ n ih =>
    intro q ev w hn20 hav _ hwalk hvl
    have IH := Lib.hid ih
    have HW := Lib.hid hwalk
    clear ih hwalk
    cases he0 : (ev == 0)
    case true =>
      have HD := Lib.hid (dayM_zero (n := n) (l := l) he0)
      go_enter Try.func57, Try.ntmps57
      go_wp2
      go_ret
      rw [HD.out]
      exact ⟨rfl, rfl⟩
    have HD := Lib.hid (dayM_pos (n := n) (l := l) he0)
    have hav2 : avail (q ++ [ev]) + 1 < n + 1 := by
      rcases hav with h | h
      · rw [h] at he0; simp at he0
      · exact h
    clear hav
    obtain ⟨a, cap, rfl⟩ := hvl.shape
    go_enter Try.func57, Try.ntmps57
    go_wp2
    go_loop [5, 6, 7] (fun la i _ => ∃ (k : Nat) (acc : Option Int), k ≤ l.length ∧ i = .int .i64 k ∧ la = .int .i64 (negD acc) ∧ Hid (∀ d, acc = some d → 0 ≤ d) ∧ -1 ≤ negD acc ∧ negD acc ≤ 1000000 ∧ Hid (dayM (n + 1) l ev = dayStep (dayM n l) ev (l.drop k) acc)) (fun _ i _ => l.length - (intOf i).toNat)
    case atStart => exact ⟨0, none, Nat.zero_le _, rfl, rfl, Lib.hid (by simp), by simp [negD], by simp [negD], Lib.hid (by rw [HD.out]; rfl)⟩
    case round =>
      obtain ⟨k, acc, hk, rfl, rfl, HPOS, ha1, ha2, HS⟩ := hrel
      obtain ⟨A, hA⟩ : ∃ A, negD acc = A := ⟨_, rfl⟩
      have HA := Lib.hid hA
      rw [hA] at ha1 ha2 ⊢
      clear hA
      by_cases hlt : k < l.length
      · obtain ⟨b, off, rfl, hc⟩ := Reads.elems Trig.enc_len hvl (by omega)
        obtain ⟨⟨p1, p2, p3⟩, hx⟩ := get_of_lt hlt
        have c0 := hc k _ hx 0 _ rfl
        have c1 := hc k _ hx 1 _ rfl
        have c2 := hc k _ hx 2 _ rfl
        rw [Nat.add_zero] at c0
        have HX := Lib.hid hx
        have HDR := Lib.hid (drop_at hx)
        clear hc hx
        cases he : (p1 == ev)
        case false =>
          have HK := Lib.hid (dayStep_skip (f := dayM n l) (ts := l.drop (k + 1)) (acc := acc) (t := ⟨p1, p2, p3⟩) he)
          go_wp2
          go_round
          case rel => exact ⟨k + 1, acc, by omega, by go_num, by rw [HA.out], HPOS, by rw [HA.out]; exact ha1, by rw [HA.out]; exact ha2, Lib.hid (by rw [HS.out, HDR.out, HK.out])⟩
          case measure => simp [intOf]; omega
        obtain ⟨f1, f2, f3, f4, HW2, HAV⟩ := path_kind HG.out HN.out HW.out HX.out he
        simp only at f1 f2 f3 f4
        have HC := IH.out (q ++ [ev]) p2 w (by omega) (by
          by_cases h0 : p2 = 0
          · exact .inl h0
          · have := HAV.out (by simp only; omega); simp only at this; right; omega) (by omega) HW2.out hvl
        go_wp2_with fail
        refine HC.mono ?_
        rintro e w2 ⟨rfl, rfl⟩
        cases hd : dayM n l p2 with
        | none =>
          have HK := Lib.hid (dayStep_none (f := dayM n l) (ts := l.drop (k + 1)) (acc := acc) (t := ⟨p1, p2, p3⟩) he hd)
          clear hd
          unfold negD
          go_wp2
          go_ret
          rw [HS.out, HDR.out, HK.out]
          exact ⟨rfl, rfl⟩
        | some d =>
          have HK := Lib.hid (dayStep_some (f := dayM n l) (ts := l.drop (k + 1)) (acc := acc) (t := ⟨p1, p2, p3⟩) he hd)
          obtain ⟨d1, d2⟩ := dayM_bounds HG.out hd
          have d3 : d ≤ 200000 := by omega
          have HM : Hid (max A (d + p3) = max (acc.getD 0) (d + p3)) := (by
            have h1 := HA.out
            cases acc with
            | none => simp only [negD, Option.getD_none] at h1 ⊢; omega
            | some a => simp only [negD, Option.getD_some] at h1 ⊢; rw [h1] : max A (d + p3) = max (acc.getD 0) (d + p3))
          clear hd d2
          have hneg : negD (some d) = d := rfl
          rw [hneg]
          go_wp2_with fail
          refine (l1Most_ok A (d + p3) w).mono ?_
          rintro e w' ⟨rfl, rfl⟩
          go_wp2
          go_round
          case rel => exact ⟨k + 1, some (max A (d + p3)), by omega, by go_num, rfl, Lib.hid (fun d' hd' => by simp only [Option.some.injEq] at hd'; omega), by simp only [negD, Option.getD_some]; omega, by simp only [negD, Option.getD_some]; omega, Lib.hid (by rw [HS.out, HDR.out, HK.out, HM.out])⟩
          case measure => simp [intOf]; omega
      · have HR : Hid (dayM (n + 1) l ev = acc) := (by rw [HS.out, List.drop_of_length_le (by omega)]; rfl : dayM (n + 1) l ev = acc)
        go_wp2
        go_ret
        rw [HR.out, HA.out]
        exact ⟨rfl, rfl⟩
theorem start_ok (l : List Trig) (ev : Int) : avail ([] ++ [ev]) + 1 < 12 ∧ Walk l ([] ++ [ev]) := ⟨by have := avail_le ([] ++ [ev]); omega, trivial⟩
set_option maxHeartbeats 1000000 in
theorem areAcyclic_ok (l : List Trig) (vl : Value) (w : World) (hvl : Reads w 3 vl l.length (l.flatMap Trig.enc)) (hl : l.length ≤ 1048576) :
    Calls Try.prog 58 #[vl] w fun e w' => e = .returned (.bool (acyB l)) ∧ Ext w w' := by
  cases hg : goodT l
  case false =>
    have HB : Hid (acyB l = false) := (by simp [acyB, hg] : acyB l = false)
    go_enter Try.func58, Try.ntmps58
    go_wp2_with fail
    refine (areTriggers_ok l vl _ hvl hl).mono ?_
    rintro e w1 ⟨rfl, E1⟩
    rw [hg]
    go_wp2
    go_ret
    rw [HB.out]
    exact ⟨rfl, E1⟩
  have HB : Hid (acyB l = (firstCyc l).isNone) := (by simp [acyB, hg] : acyB l = (firstCyc l).isNone)
  go_enter Try.func58, Try.ntmps58
  go_wp2_with fail
  refine (areTriggers_ok l vl _ hvl hl).mono ?_
  rintro e w1 ⟨rfl, E1⟩
  rw [hg]
  go_wp2_with fail
  refine (firstCycle_ok l vl _ (hvl.mono E1) hl).mono ?_
  rintro e w2 ⟨v2, rfl, hcyc, E2⟩
  have E2' := Ext.trans E1 E2
  cases hr : firstCyc l with
  | none =>
    rw [hr] at hcyc
    obtain rfl : v2 = .slice none 0 0 := hcyc
    have hnil := fun w' => Lib.run_eql_slice_nil (P := Try.prog) w' 38 3 none 0 0 0 0 Try.underlying38
    have HR := Lib.hid hr
    clear hr
    go_wp2
    go_ret
    rw [HB.out, HR.out]
    exact ⟨rfl, E2'⟩
  | some r =>
    rw [hr] at hcyc
    obtain ⟨hrne, o5⟩ := hcyc
    obtain ⟨g5, cap5, rfl, _⟩ := owns_some o5 (List.length_pos_iff.2 hrne)
    have hnil := fun w' => Lib.run_eql_slice_nil (P := Try.prog) w' 38 3 (some ⟨g5, 0, none⟩) r.length cap5 0 0 Try.underlying38
    have HR := Lib.hid hr
    clear hr
    go_wp2
    go_ret
    rw [HB.out, HR.out]
    exact ⟨rfl, E2'⟩
set_option maxHeartbeats 1000000 in
theorem l10Free_ok (l : List Trig) (vl : Value) (w : World) (hvl : Reads w 3 vl l.length (l.flatMap Trig.enc)) (hl : l.length ≤ 1048576) :
    Calls Try.prog 56 #[vl] w fun e w' => e = .returned (.bool (acyB l)) ∧ Ext w w' := by
  obtain ⟨r, hr⟩ : ∃ r, acyB l = r := ⟨_, rfl⟩
  rw [hr]
  have HB := Lib.hid hr
  clear hr
  cases hg : goodT l <;> cases hh : hasCycB l
  all_goals
    have HQ : Hid (r = (goodT l && !hasCycB l)) := (by rw [← HB.out]; cases h : firstCyc l <;> simp [acyB, hasCycB, hg, h] : r = (goodT l && !hasCycB l))
    rw [hg, hh] at HQ
    go_enter Try.func56, Try.ntmps56
    go_wp2_with fail
    refine (specHasCycle_ok l vl _ hvl hl).mono ?_
    rintro e w1 ⟨rfl, E1⟩
    rw [hg, hh]
    go_wp2
    go_ret
    rw [HQ.out]
    exact ⟨rfl, E1⟩
end Go.Proofs.Yteaaiiodnejmmaa
