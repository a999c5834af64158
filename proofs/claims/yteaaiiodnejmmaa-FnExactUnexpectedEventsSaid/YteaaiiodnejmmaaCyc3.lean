/- What the reference's search for the first cycle computes; no condition beyond the lengths that are named. -/
import Derived.Test.YteaaiiodnejmmaaCyc2
import Derived.Test.YteaaiiodnejmmaaHasI
namespace Go.Proofs.Yteaaiiodnejmmaa
open Go.RowKit Go.Sort Go.Rd

set_option maxHeartbeats 1000000 in
theorem l1Own_ok (l : List Int) (v : Value) (w : World) (hv : Reads w 1 v l.length (l.flatMap encI)) (hl : l.length ≤ 1048576) (hpos : 0 < l.length) :
    Calls Try.prog 81 #[v] w (RetOwn w 3 1 l.length (l.flatMap encI)) := by
  obtain ⟨a, cap, rfl⟩ := hv.shape
  cases a with
  | none =>
    obtain ⟨_, a', cap', h1, h2⟩ := hv
    simp only [Value.slice.injEq] at h1
    obtain ⟨rfl, _, rfl⟩ := h1
    rcases h2 with h2 | ⟨b, off, h2, _⟩
    · omega
    · cases h2
  | some ad =>
    have hc : ∀ o, ∀ j u, (l.flatMap encI)[j]? = some u → (w.alloc o).cell? (ad.add j) = some u := by
      intro o j u hu
      have hj := (List.getElem?_eq_some_iff.1 hu).1
      have hlen := flat_length encI 1 encI_len l
      obtain ⟨_, b, off, ha, hc⟩ := hv.at (by omega)
      simp only [Option.some.injEq] at ha
      subst ha
      have := hc j (by omega)
      rw [hu] at this
      have hadd : (⟨b, off, none⟩ : Addr).add j = ⟨b, off + j, none⟩ := by unfold Addr.add; split <;> simp_all
      rw [hadd]
      exact ((Ext.refl w).alloc o).cell this
    have HC := Lib.hid hc
    clear hc
    go_enter Try.func81, Try.ntmps81
    go_wp2_with (at_builtin; refine wpl_appendN w (w.alloc (.cells #[] 3)) rfl _ _ 38 rfl 3 _ 1 8 Try.underlying38 Try.infoInt rfl (by decide) (by decide) _ 0 [] ?c0 (owns_empty w w.heap.size _ _ (Nat.le_refl _)) ad l.length cap (l.flatMap encI) rfl rfl ?c1 ?c2 ?c3 ?c4 ?_)
    case c0 => exact (Ext.refl w).alloc _
    case c1 => exact flat_length encI 1 encI_len l
    case c2 => exact HC.out _
    case c3 => exact flat_one encI_one l
    case c4 => omega
    intro v' w2 o2 E2
    go_wp2
    go_ret
    exact ⟨_, rfl, by simpa using o2, E2⟩
/-- What the reference's search leaves: a row, and whether there is a cycle. -/
def RetChain (base : Nat) (w : World) (r : Option (List Int)) (e : Ending) (w' : World) : Prop :=
  ∃ v', e = .returned (.tuple #[v', .bool r.isSome]) ∧ w'.ownsRow base 3 1 v' (r.getD []).length ((r.getD []).flatMap encI) ∧ Ext w w'
theorem follB_step (a b : Int) (l : List Trig) (k : Nat) (x : Trig) (h : l[k]? = some x) : (follB (l.take k) a b || (x.ev == a && x.af == b)) = follB (l.take (k + 1)) a b := by
  unfold follB; rw [List.take_add_one, h]; simp [List.any_append]

set_option maxHeartbeats 4000000 in
theorem l10Chain_ok (l : List Trig) (vl : Value) (hl : l.length ≤ 1048576) (base : Nat) : ∀ (n : Nat) (c : List Int) (v : Value) (w : World), avail c < n → (∀ x ∈ c, 1 ≤ x ∧ x ≤ 9) → c ≠ [] → c.length + n ≤ 100 →
    Reads w 3 vl l.length (l.flatMap Trig.enc) → w.ownsRow base 3 1 v c.length (c.flatMap encI) → base ≤ w.heap.size →
    Calls Try.prog 72 #[vl, v] w (RetChain base w (chainM n l c)) := by
  intro n
  induction n with
  | zero => intro c v w h; omega
  | succ n ih =>
    intro c v w hav hran hne hlen hvl hown hbase
    have IH := Lib.hid ih
    clear ih
    obtain ⟨fi, hfi⟩ : ∃ fi, c.headD 0 = fi := ⟨_, rfl⟩
    obtain ⟨la, hla⟩ : ∃ la, c.getLastD 0 = la := ⟨_, rfl⟩
    have hpos : 0 < c.length := List.length_pos_iff.2 hne
    have e0 : (c.flatMap encI)[0]? = some (.int .i64 fi) := by
      cases c with
      | nil => exact absurd rfl hne
      | cons x r => simp only [List.headD_cons] at hfi; subst hfi; rfl
    have e1 : (c.flatMap encI)[c.length - 1]? = some (.int .i64 la) := by
      have h1 : c[c.length - 1]? = some la := by
        rw [← hla, ← List.getLast?_eq_getElem?, List.getLastD_eq_getLast?]
        cases h : c.getLast? with
        | none => exact absurd (List.getLast?_eq_none_iff.1 h) hne
        | some y => rfl
      have := flat_some (enc := encI) encI_len h1 (j := 0) (u := .int .i64 la) rfl
      simpa using this
    have hfi1 : 1 ≤ fi ∧ fi ≤ 9 := by
      cases c with
      | nil => exact absurd rfl hne
      | cons x r => simp only [List.headD_cons] at hfi; subst hfi; exact hran _ (List.mem_cons_self ..)
    obtain ⟨g, cap, rfl, hcell⟩ := owns_some hown hpos
    have k0 := (hcell 0 (by omega)).trans e0
    have k1 := (hcell (c.length - 1) (by omega)).trans e1
    have HOWN := Lib.hid hown
    have HR := Lib.hid hran
    have HF := Lib.hid hfi
    have HL := Lib.hid hla
    clear hcell e0 e1 hfi hla hran
    obtain ⟨hf1, hf9⟩ := hfi1
    have HC := Lib.hid (chainM_from (n := n) (l := l) (c := c) (by rw [HF.out]; exact hf9))
    rw [HF.out] at HC
    have b1 : (c.length : Int) - 1 < (c.length : Int) := by omega
    have b2 : (1 : Int) ≤ (c.length : Int) := by omega
    have b3 : (0 : Int) ≤ (c.length : Int) - 1 := by omega
    obtain ⟨a, capl, rfl⟩ := hvl.shape
    go_enter Try.func72, Try.ntmps72
    go_wp2
    go_loopw [7, 8, 9, 10, 11] (fun nx _ _ _ _ wr => ∃ k : Int, fi ≤ k ∧ k ≤ 10 ∧ nx = .int .i64 k ∧ Hid (chainM (n + 1) l c = someFrom (stepC n l c) (10 - k).toNat k) ∧ Ext w wr) (fun nx _ _ _ _ _ => (10 - intOf nx).toNat)
    case atStart => exact ⟨fi, by omega, by omega, rfl, HC, Ext.refl _⟩
    case round =>
      obtain ⟨k, hk1, hk10, rfl, HS, hE⟩ := hrel
      by_cases hk9 : k ≤ 9
      · have hm : (10 - k).toNat = (10 - (k + 1)).toNat + 1 := by omega
        have HS2 := HS.out
        rw [hm] at HS2
        have HS3 := Lib.hid HS2
        clear HS2 hm
        have q0 := hE.cell k0
        go_wp2
        go_loopw [8, 9] (fun fo i wx => ∃ j : Nat, j ≤ l.length ∧ i = .int .i64 j ∧ fo = .bool (follB (l.take j) la k) ∧ wx = wr) (fun _ i _ => l.length - (intOf i).toNat)
        case atStart => exact ⟨0, Nat.zero_le _, rfl, rfl, rfl⟩
        case round =>
          obtain ⟨j, hj, rfl, rfl, rfl⟩ := hrel
          by_cases hlt : j < l.length
          · have hv1 := hvl.mono hE
            obtain ⟨b, off, rfl, hc⟩ := Reads.elems Trig.enc_len hv1 (by omega)
            obtain ⟨⟨p1, p2, p3⟩, hx⟩ := get_of_lt hlt
            have c0 := hc j _ hx 0 _ rfl
            have c1 := hc j _ hx 1 _ rfl
            rw [Nat.add_zero] at c0
            have HX := Lib.hid (follB_step la k l j _ hx)
            clear hc hx hv1
            obtain ⟨fb, hfb⟩ : ∃ fb, follB (l.take j) la k = fb := ⟨_, rfl⟩
            rw [hfb] at HX ⊢
            clear hfb
            cases fb <;> cases h1 : (p1 == la) <;> cases h2 : (p2 == k)
            all_goals
              have HX2 := HX.out
              simp only [h1, h2] at HX2
              have HX3 := Lib.hid HX2
              clear HX2
              go_wp2
              go_roundw
              case rel => exact ⟨j + 1, by omega, by go_num, by rw [← HX3.out]; rfl, trivial⟩
              case measure => simp [intOf]; omega
          · have hjn : j = l.length := by omega
            have hT : follB (l.take j) la k = follB l la k := by rw [hjn, List.take_length]
            rw [hT]
            clear hjn hT
            cases hf : follB l la k
            case false =>
              have HK := Lib.hid (stepC_no (n := n) (l := l) (c := c) (k := k) HL.out hf)
              go_wp2
              go_roundw
              case rel => exact ⟨k + 1, by omega, by omega, rfl, Lib.hid (by rw [HS3.out, someFrom_none HK.out]), hE⟩
              case measure => simp [intOf]; omega
            cases he : (k == fi)
            case true =>
              have HK := Lib.hid (HS3.out.trans (someFrom_some (stepC_first (n := n) (l := l) (c := c) (k := k) HL.out HF.out hf he)))
              have o1 := hE.owns HOWN.out
              go_wp2
              go_ret2
              rw [HK.out]
              exact ⟨_, rfl, o1, hE⟩
            go_wp2_with fail
            refine (l1Has_ok c k _ _ (Reads.of_owns (hE.owns HOWN.out)) (by omega)).mono ?_
            rintro e w' ⟨rfl, rfl⟩
            cases hcc : c.contains k
            case true =>
              have HK := Lib.hid (stepC_has (n := n) (l := l) (c := c) (k := k) HF.out he hcc)
              go_wp2
              go_roundw
              case rel => exact ⟨k + 1, by omega, by omega, rfl, Lib.hid (by rw [HS3.out, someFrom_none HK.out]), hE⟩
              case measure => simp [intOf]; omega
            have HK := Lib.hid (stepC_go (n := n) (l := l) (c := c) (k := k) HL.out HF.out hf he hcc)
            go_wp2_with fail
            refine (l1Own_ok c _ _ (Reads.of_owns (hE.owns HOWN.out)) (by omega) hpos).mono ?_
            rintro e w3 ⟨v3, rfl, o3, E3⟩
            have hE3 := Ext.trans hE E3
            have o3' : w3.ownsRow w.heap.size 3 1 v3 c.length (c.flatMap encI) := owns_mono o3 hE.size
            go_wp2_with (at_builtin; refine wpl_append1 w w3 rfl _ _ 38 rfl 3 _ 1 8 Try.underlying38 Try.infoInt rfl (by decide) (by decide) _ _ _ hE3 o3' ?c1 [.int .i64 k] rfl rfl rfl (encI_one k) ?_)
            case c1 => omega
            intro v4 w4 o4 E4 _
            go_wp2_with fail
            have o4' : w4.ownsRow base 3 1 v4 (c ++ [k]).length ((c ++ [k]).flatMap encI) := by
              have := owns_mono o4 hbase
              simpa [encI] using this
            refine (IH.out (c ++ [k]) v4 w4 (by have := avail_lt (c := c) (k := k) (by omega) hk9 hcc; omega) (fun x hx => by
              rcases List.mem_append.1 hx with h | h
              · exact HR.out x h
              · have : x = k := by simpa using h
                omega) (by simp) (by simp; omega) (hvl.mono E4) o4' (by have := E4.size; omega)).mono ?_
            rintro e w5 ⟨v5, rfl, o5, E5⟩
            have hE5 := Ext.trans E4 E5
            cases hr : chainM n l (c ++ [k]) with
            | none =>
              have HK2 := Lib.hid (HK.out.trans hr)
              clear hr o5
              go_wp2
              go_roundw
              case rel => exact ⟨k + 1, by omega, by omega, rfl, Lib.hid (by rw [HS3.out, someFrom_none HK2.out]), hE5⟩
              case measure => simp [intOf]; omega
            | some r =>
              rw [hr] at o5
              have HFIN := Lib.hid (HS3.out.trans (someFrom_some (HK.out.trans hr)))
              clear hr
              go_wp2
              go_ret2
              rw [HFIN.out]
              exact ⟨_, rfl, o5, hE5⟩
      · have hk : k = 10 := by omega
        have HFIN : Hid (chainM (n + 1) l c = none) := (by rw [HS.out, hk]; rfl : chainM (n + 1) l c = none)
        clear hk
        go_wp2
        go_ret2
        rw [HFIN.out]
        have o1 : (wr.alloc (.cells #[] 3)).ownsRow base 3 1 (.slice (some ⟨wr.heap.size, 0, none⟩) 0 0) 0 [] := owns_empty wr base 3 1 (by have := hE.size; omega)
        exact ⟨_, rfl, o1, hE.alloc _⟩
set_option maxHeartbeats 1000000 in
theorem l10Cycle_ok (l : List Trig) (vl : Value) (w : World) (hvl : Reads w 3 vl l.length (l.flatMap Trig.enc)) (hl : l.length ≤ 1048576) :
    Calls Try.prog 54 #[vl] w (RetChain w.heap.size w (firstCyc l)) := by
  go_enter Try.func54, Try.ntmps54
  go_wp2
  go_loopw [4, 5, 6] (fun nx _ _ wr => ∃ k : Int, 1 ≤ k ∧ k ≤ 10 ∧ nx = .int .i64 k ∧ Hid (firstCyc l = someFrom (fun k => chainM 10 l [k]) (10 - k).toNat k) ∧ Ext w wr) (fun nx _ _ _ => (10 - intOf nx).toNat)
  case atStart => exact ⟨1, by omega, by omega, rfl, Lib.hid rfl, Ext.refl _⟩
  case round =>
    obtain ⟨k, hk1, hk10, rfl, HS, hE⟩ := hrel
    by_cases hk9 : k ≤ 9
    · have hm : (10 - k).toNat = (10 - (k + 1)).toNat + 1 := by omega
      have HS2 := HS.out
      rw [hm] at HS2
      have HS3 := Lib.hid HS2
      clear HS2 hm
      have hE' := hE.alloc (.cells #[.int .i64 k] 3)
      have o1 : (wr.alloc (.cells #[.int .i64 k] 3)).ownsRow w.heap.size 3 1 (.slice (some ⟨wr.heap.size, 0, none⟩) 1 1) [k].length ([k].flatMap encI) :=
        World.ownsRow_lit wr #[.int .i64 k] 1 hE.size (by decide) rfl
      have HC := l10Chain_ok l vl hl w.heap.size 10 [k] _ _ (by have := avail_le [k]; omega) (by simp; omega) (by simp) (by simp) (hvl.mono hE') o1 (by have := hE'.size; omega)
      go_wp2_with fail
      refine HC.mono ?_
      rintro e w5 ⟨v5, rfl, o5, E5⟩
      have hE5 := Ext.trans hE' E5
      cases hr : chainM 10 l [k] with
      | none =>
        have HK2 := Lib.hid hr
        clear hr o5
        go_wp2
        go_roundw
        case rel => exact ⟨k + 1, by omega, by omega, rfl, Lib.hid (by rw [HS3.out, someFrom_none HK2.out]), hE5⟩
        case measure => simp [intOf]; omega
      | some r =>
        rw [hr] at o5
        have HFIN := Lib.hid (HS3.out.trans (someFrom_some hr))
        clear hr
        go_wp2
        go_ret2
        rw [HFIN.out]
        exact ⟨_, rfl, o5, hE5⟩
    · have hk : k = 10 := by omega
      have HFIN : Hid (firstCyc l = none) := (by rw [HS.out, hk]; rfl : firstCyc l = none)
      clear hk
      go_wp2
      go_ret2
      rw [HFIN.out]
      have o1 : (wr.alloc (.cells #[] 3)).ownsRow w.heap.size 3 1 (.slice (some ⟨wr.heap.size, 0, none⟩) 0 0) 0 [] := owns_empty wr w.heap.size 3 1 hE.size
      exact ⟨_, rfl, o1, hE.alloc _⟩
set_option maxHeartbeats 1000000 in
theorem specHasCycle_ok (l : List Trig) (vl : Value) (w : World) (hvl : Reads w 3 vl l.length (l.flatMap Trig.enc)) (hl : l.length ≤ 1048576) :
    Calls Try.prog 22 #[vl] w fun e w' => e = .returned (.tuple #[.bool (hasCycB l), .bool (goodT l)]) ∧ Ext w w' := by
  cases hg : goodT l
  case false =>
    have HB : Hid (hasCycB l = false) := (by simp [hasCycB, hg] : hasCycB l = false)
    go_enter Try.func22, Try.ntmps22
    go_wp2_with fail
    refine (l10Good_ok l vl _ hvl hl).mono ?_
    rintro e w1 ⟨rfl, E1⟩
    go_wp2
    go_ret2
    rw [HB.out]
    exact ⟨rfl, E1⟩
  have HB : Hid (hasCycB l = (firstCyc l).isSome) := (by simp [hasCycB, hg] : hasCycB l = (firstCyc l).isSome)
  go_enter Try.func22, Try.ntmps22
  go_wp2_with fail
  refine (l10Good_ok l vl _ hvl hl).mono ?_
  rintro e w1 ⟨rfl, E1⟩
  go_wp2_with fail
  refine (l10Cycle_ok l vl _ (hvl.mono E1) hl).mono ?_
  rintro e w2 ⟨v2, rfl, _, E2⟩
  have E2' := Ext.trans E1 E2
  go_wp2
  go_ret2
  rw [HB.out]
  exact ⟨rfl, E2'⟩
set_option maxHeartbeats 1000000 in
theorem specFirstCycle_ok (l : List Trig) (vl : Value) (w : World) (hvl : Reads w 3 vl l.length (l.flatMap Trig.enc)) (hl : l.length ≤ 1048576) :
    Calls Try.prog 24 #[vl] w (RetReadB w 1 (cycL l).length ((cycL l).flatMap encI) (cycOk l)) := by
  cases hg : goodT l
  case false =>
    have HB : Hid (cycL l = []) := (by simp [cycL, hg] : cycL l = [])
    have HO : Hid (cycOk l = false) := (by simp [cycOk, hg] : cycOk l = false)
    go_enter Try.func24, Try.ntmps24
    go_wp2_with fail
    refine (l10Good_ok l vl _ hvl hl).mono ?_
    rintro e w1 ⟨rfl, E1⟩
    have o1 : (w1.alloc (.cells #[] 3)).ownsRow w.heap.size 3 1 (.slice (some ⟨w1.heap.size, 0, none⟩) 0 0) 0 [] := owns_empty w1 w.heap.size 3 1 E1.size
    go_wp2
    go_ret2
    rw [HB.out, HO.out]
    exact ⟨_, rfl, Reads.of_owns o1, E1.alloc _⟩
  have HB : Hid (cycL l = (firstCyc l).getD []) := (by simp [cycL, hg] : cycL l = (firstCyc l).getD [])
  have HO : Hid (cycOk l = (firstCyc l).isSome) := (by simp [cycOk, hg] : cycOk l = (firstCyc l).isSome)
  go_enter Try.func24, Try.ntmps24
  go_wp2_with fail
  refine (l10Good_ok l vl _ hvl hl).mono ?_
  rintro e w1 ⟨rfl, E1⟩
  go_wp2_with fail
  refine (l10Cycle_ok l vl _ (hvl.mono E1) hl).mono ?_
  rintro e w2 ⟨v2, rfl, o2, E2⟩
  have E2' := Ext.trans E1 E2
  go_wp2
  go_ret2
  rw [HB.out, HO.out]
  exact ⟨_, rfl, Reads.of_owns o2, E2'⟩
end Go.Proofs.Yteaaiiodnejmmaa
