/- What the program's functions on cycles of triggers compute; no condition beyond the lengths that are named. -/
import Derived.Test.YteaaiiodnejmmaaTrigsD
import Derived.Test.YteaaiiodnejmmaaCycData
import Derived.Test.YteaaiiodnejmmaaIntSl
namespace Go.Proofs.Yteaaiiodnejmmaa
open Go.RowKit Go.Sort Go.Rd

set_option maxHeartbeats 400000 in
theorem follows1_ok (x : Trig) (ev af : Int) (b b2 : Nat) (w : World) (hc : w.cell? ⟨b, 0, none⟩ = some (.int .i64 ev)) (hc' : w.cell? ⟨b2, 0, none⟩ = some (.int .i64 af)) :
    Calls Try.prog 98 #[.agg #[.int .i64 x.ev, .int .i64 x.af, .int .i64 x.dy], .pointer (some ⟨b, 0, none⟩), .pointer (some ⟨b2, 0, none⟩)] w fun e w' => e = .returned (.bool (x.ev == ev && x.af == af)) ∧ Ext w w' := by
  obtain ⟨p1, p2, p3⟩ := x
  have hb := block_lt_of_cell hc
  have hb' := block_lt_of_cell hc'
  have hne : b ≠ w.heap.size := by have : b < w.heap.size := hb; omega
  have hne' : b2 ≠ w.heap.size := by have : b2 < w.heap.size := hb'; omega
  have hc2 := cell_alloc hc
  have hc3 := cell_alloc hc'
  cases h1 : (p1 == ev) <;> cases h2 : (p2 == af)
  all_goals
    go_enter Try.func98, Try.ntmps98
    go_wp2
    go_ret
    exact ⟨rfl, (Ext.refl _).alloc _⟩
theorem enters_follows1 : ∀ args w, (callFunc 98 args).run Try.prog w = .ok (.enter 98 args) w := enters_of Try.func98 (by kernel_rfl) rfl
set_option maxHeartbeats 1000000 in
theorem follows_ok (l : List Trig) (a b : Int) (v : Value) (w : World) (hv : Reads w 3 v l.length (l.flatMap Trig.enc)) (hl : l.length ≤ 1048576) :
    Calls Try.prog 82 #[v, .int .i64 a, .int .i64 b] w fun e w' => e = .returned (.bool (follB l a b)) ∧ Ext w w' := by
  obtain ⟨w2, hw2⟩ : ∃ w2, w2 = (w.alloc (.cells #[.int .i64 a] 3)).alloc (.cells #[.int .i64 b] 3) := ⟨_, rfl⟩
  have h1 : w2.cell? ⟨w.heap.size, 0, none⟩ = some (.int .i64 a) := by rw [hw2]; simp
  have h2 : w2.cell? ⟨w.heap.size + 1, 0, none⟩ = some (.int .i64 b) := by rw [hw2]; simp
  have E2 : Ext w w2 := by rw [hw2]; exact ((Ext.refl w).alloc _).alloc _
  have HC := containsFuncTrigger_ok 98 #[.pointer (some ⟨w.heap.size, 0, none⟩), .pointer (some ⟨w.heap.size + 1, 0, none⟩)] (fun t => t.ev == a && t.af == b) l v w2 enters_follows1 (fun x w' h => follows1_ok x a b _ _ w' (h.cell h1) (h.cell h2)) (hv.mono E2) hl
  clear h1 h2
  go_enter Try.func82, Try.ntmps82
  go_wp2_with fail
  rw [← hw2]
  refine HC.mono ?_
  rintro e w3 ⟨rfl, E3⟩
  go_wp2
  go_ret
  exact ⟨rfl, Ext.trans E2 E3⟩

/-- What a search for a cycle leaves: nil, or a row of the call's own. -/
def CycV (base : Nat) (w' : World) (v' : Value) : Option (List Int) → Prop
  | none => v' = .slice none 0 0
  | some c => c ≠ [] ∧ w'.ownsRow base 3 1 v' c.length (c.flatMap encI)
def RetCyc (base : Nat) (w : World) (r : Option (List Int)) (e : Ending) (w' : World) : Prop :=
  ∃ v', e = .returned v' ∧ CycV base w' v' r ∧ Ext w w'
theorem owns_some {w : World} {base : Nat} {e : TypeId} {sz : Nat} {v : Value} {n : Nat} {cs : List Value} (h : w.ownsRow base e sz v n cs) (hn : 0 < n) :
    ∃ g cap, v = .slice (some ⟨g, 0, none⟩) n cap ∧ ∀ j, j < n * sz → w.cell? ⟨g, j, none⟩ = cs[j]? := by
  rcases owns_cases h with ⟨_, h0⟩ | ⟨g, cap, rfl, _⟩
  · omega
  · exact ⟨g, cap, rfl, fun j hj => h.cellAt j hj⟩

set_option maxHeartbeats 2000000 in
theorem cycleFrom_ok (l : List Trig) (vl : Value) (hl : l.length ≤ 1048576) (base : Nat) : ∀ (n : Nat) (c : List Int) (v : Value) (w : World), avail c < n → (∀ x ∈ c, 1 ≤ x ∧ x ≤ 9) → c ≠ [] → c.length + n ≤ 100 →
    Reads w 3 vl l.length (l.flatMap Trig.enc) → w.ownsRow base 3 1 v c.length (c.flatMap encI) → base ≤ w.heap.size →
    Calls Try.prog 73 #[vl, v] w (RetCyc base w (chainM n l c)) := by
  intro n
  induction n with
  | zero => intro c v w h; omega
  | succ n ih =>
    intro c v w hav hran hne hlen hvl hown hbase
    have mixed : Try.prog.follows .mixedOrders = true := by kernel_rfl
    have IH := Lib.hid ih
    clear ih
    obtain ⟨fi, hfi⟩ : ∃ fi, c.headD 0 = fi := ⟨_, rfl⟩
    obtain ⟨la, hla⟩ : ∃ la, c.getLastD 0 = la := ⟨_, rfl⟩
    have hpos : 0 < c.length := List.length_pos_iff.2 hne
    have e0 : (c.flatMap encI)[0]? = some (.int .i64 fi) := by
      cases c with
      | nil => exact absurd rfl hne
      | cons x r => simp only [List.headD_cons] at hfi; subst hfi; rfl
    have e1 : (c.flatMap encI)[c.length - 1]? = some (.int .i64 la) := by
      have h1 : c[c.length - 1]? = some la := by
        rw [← hla, ← List.getLast?_eq_getElem?, List.getLastD_eq_getLast?]
        cases h : c.getLast? with
        | none => exact absurd (List.getLast?_eq_none_iff.1 h) hne
        | some y => rfl
      have := flat_some (enc := encI) encI_len h1 (j := 0) (u := .int .i64 la) rfl
      simpa using this
    have hfi1 : 1 ≤ fi ∧ fi ≤ 9 := by
      cases c with
      | nil => exact absurd rfl hne
      | cons x r => simp only [List.headD_cons] at hfi; subst hfi; exact hran _ (List.mem_cons_self ..)
    obtain ⟨g, cap, rfl, hcell⟩ := owns_some hown hpos
    have k0 := (hcell 0 (by omega)).trans e0
    have k1 := (hcell (c.length - 1) (by omega)).trans e1
    have HOWN := Lib.hid hown
    have HR := Lib.hid hran
    have HF := Lib.hid hfi
    have HL := Lib.hid hla
    clear hcell e0 e1 hfi hla hran
    obtain ⟨hf1, hf9⟩ := hfi1
    have b1 : (c.length : Int) - 1 < (c.length : Int) := by omega
    have b2 : (1 : Int) ≤ (c.length : Int) := by omega
    have b3 : (0 : Int) ≤ (c.length : Int) - 1 := by omega
    go_enter Try.func73, Try.ntmps73
    go_wp2
    go_quiet (fail)
    have EQ : Ext w (w.drewN nq) := below_drewN (Ext.refl w) nq
    obtain ⟨wq, hwq⟩ : ∃ wq, wq = w.drewN nq := ⟨_, rfl⟩
    rw [← hwq] at EQ ⊢
    clear hwq k0 k1
    go_wp2_with fail
    refine (follows_ok l la fi vl _ (hvl.mono EQ) hl).mono ?_
    rintro e w1 ⟨rfl, E1⟩
    have E1' := Ext.trans EQ E1
    cases hyes : follB l la fi
    case true =>
      have HC := Lib.hid (chainM_yes (n := n) (l := l) (c := c) (by rw [HL.out, HF.out]; exact hyes))
      have o1 := E1'.owns HOWN.out
      go_wp2
      go_ret
      rw [HC.out]
      exact ⟨_, rfl, ⟨hne, o1⟩, E1'⟩
    have HC := Lib.hid (chainM_no (n := n) (l := l) (c := c) (by rw [HL.out, HF.out]; exact hyes))
    rw [HF.out] at HC
    go_wp2
    go_loopw [7, 8] (fun nx _ wr => ∃ k : Int, fi + 1 ≤ k ∧ k ≤ 10 ∧ nx = .int .i64 k ∧ Hid (chainM (n + 1) l c = someFrom (stepK n l c) (10 - k).toNat k) ∧ Ext w wr) (fun nx _ _ => (10 - intOf nx).toNat)
    case atStart => exact ⟨fi + 1, by omega, by omega, rfl, Lib.hid (by rw [HC.out]; congr 1; omega), E1'⟩
    case round =>
      obtain ⟨k, hk1, hk10, rfl, HS, hE⟩ := hrel
      by_cases hk9 : k ≤ 9
      · have hm : (10 - k).toNat = (10 - (k + 1)).toNat + 1 := by omega
        have HS2 := HS.out
        rw [hm] at HS2
        have HS3 := Lib.hid HS2
        clear HS2 hm
        go_wp2_with fail
        refine (follows_ok l la k vl _ (hvl.mono hE) hl).mono ?_
        rintro e w2 ⟨rfl, E2⟩
        have hE2 := Ext.trans hE E2
        cases hf : follB l la k
        case false =>
          have HK := Lib.hid (stepK_skip (n := n) (l := l) (c := c) (k := k) (by rw [HL.out, hf]; rfl))
          go_wp2
          go_roundw
          case rel => exact ⟨k + 1, by omega, by omega, rfl, Lib.hid (by rw [HS3.out, someFrom_none HK.out]), hE2⟩
          case measure => simp [intOf]; omega
        go_wp2_with fail
        refine (containsInt_ok c k _ _ (Reads.of_owns (hE2.owns HOWN.out)) (by omega)).mono ?_
        rintro e w' ⟨rfl, rfl⟩
        cases hcc : c.contains k
        case true =>
          have HK := Lib.hid (stepK_skip (n := n) (l := l) (c := c) (k := k) (by rw [HL.out, hf, hcc]; rfl))
          go_wp2
          go_roundw
          case rel => exact ⟨k + 1, by omega, by omega, rfl, Lib.hid (by rw [HS3.out, someFrom_none HK.out]), hE2⟩
          case measure => simp [intOf]; omega
        have HK := Lib.hid (stepK_go (n := n) (l := l) (c := c) (k := k) (by rw [HL.out, hf, hcc]; rfl))
        go_wp2_with fail
        refine (cloneInt_ok c _ _ (Reads.of_owns (hE2.owns HOWN.out)) (by omega)).mono ?_
        rintro e w3 ⟨v3, rfl, o3, E3⟩
        have hE3 := Ext.trans hE2 E3
        have o3' : w3.ownsRow w.heap.size 3 1 v3 c.length (c.flatMap encI) := owns_mono o3 hE2.size
        go_wp2_with (at_builtin; refine wpl_append1 w w3 rfl _ _ 38 rfl 3 _ 1 8 Try.underlying38 Try.infoInt rfl (by decide) (by decide) _ _ _ hE3 o3' ?c1 [.int .i64 k] rfl rfl rfl (encI_one k) ?_)
        case c1 => omega
        intro v4 w4 o4 E4 _
        go_wp2_with fail
        have o4' : w4.ownsRow base 3 1 v4 (c ++ [k]).length ((c ++ [k]).flatMap encI) := by
          have := owns_mono o4 hbase
          simpa [encI] using this
        refine (IH.out (c ++ [k]) v4 w4 (by have := avail_lt (c := c) (k := k) (by omega) hk9 hcc; omega) (fun x hx => by
          rcases List.mem_append.1 hx with h | h
          · exact HR.out x h
          · have : x = k := by simpa using h
            omega) (by simp) (by simp; omega) (hvl.mono E4) o4' (by have := E4.size; omega)).mono ?_
        rintro e w5 ⟨v5, rfl, hcyc, E5⟩
        have hE5 := Ext.trans E4 E5
        cases hr : chainM n l (c ++ [k]) with
        | none =>
          rw [hr] at hcyc
          obtain rfl : v5 = .slice none 0 0 := hcyc
          have HK2 := Lib.hid (HK.out.trans hr)
          have hnil := fun w' => run_neq_slice_nil_any (P := Try.prog) w' 38 3 none 0 0 0 0 Try.underlying38
          clear hr
          go_wp2
          go_roundw
          case rel => exact ⟨k + 1, by omega, by omega, rfl, Lib.hid (by rw [HS3.out, someFrom_none HK2.out]), hE5⟩
          case measure => simp [intOf]; omega
        | some r =>
          rw [hr] at hcyc
          have HK2 := Lib.hid (HK.out.trans hr)
          obtain ⟨hrne, o5⟩ := hcyc
          obtain ⟨g5, cap5, rfl, _⟩ := owns_some o5 (List.length_pos_iff.2 hrne)
          have hnil := fun w' => run_neq_slice_nil_any (P := Try.prog) w' 38 3 (some ⟨g5, 0, none⟩) r.length cap5 0 0 Try.underlying38
          have HFIN := Lib.hid (HS3.out.trans (someFrom_some HK2.out))
          clear hr
          go_wp2
          go_ret
          rw [HFIN.out]
          exact ⟨_, rfl, ⟨hrne, o5⟩, hE5⟩
      · have hk : k = 10 := by omega
        have HFIN : Hid (chainM (n + 1) l c = none) := (by rw [HS.out, hk]; rfl : chainM (n + 1) l c = none)
        clear hk
        go_wp2
        go_ret
        rw [HFIN.out]
        exact ⟨_, rfl, rfl, hE⟩
end Go.Proofs.Yteaaiiodnejmmaa
