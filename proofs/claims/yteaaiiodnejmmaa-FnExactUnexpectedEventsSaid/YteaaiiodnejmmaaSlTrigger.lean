/- What the library's small functions on slices of Trigger compute; no condition beyond the lengths that are named. -/
import Derived.Test.YteaaiiodnejmmaaRows
import Derived.Test.YteaaiiodnejmmaaData
import Derived.WalkSpells
import Derived.Lib.SliceRun
namespace Go.Proofs.Yteaaiiodnejmmaa
open Go.RowKit Go.Sort Go.Rd

theorem Try.infoSTrigger : (Try.prog.info? 58).map (fun i => (i.zero, i.size, i.bytes)) = some (some (.agg #[.int .i64 0, .int .i64 0, .int .i64 0]), 3, 24) := by kernel_rfl
set_option maxHeartbeats 1000000 in
theorem indexFuncTrigger_ok (f : FuncId) (caps : Array Value) (p : Trig → Bool) (l : List Trig) (v : Value) (w : World) (hent : ∀ args w, (callFunc f args).run Try.prog w = .ok (.enter f args) w)
    (hp : ∀ (x : Trig) (w' : World), Ext w w' → Calls Try.prog f (#[(.agg #[.int .i64 x.ev, .int .i64 x.af, .int .i64 x.dy])] ++ caps) w' fun e w'' => e = .returned (.bool (p x)) ∧ Ext w' w'')
    (hv : Reads w 3 v l.length (l.flatMap Trig.enc)) (hl : l.length ≤ 1048576) :
    Calls Try.prog 71 #[v, .func (.func f) #[] caps] w fun e w' => e = .returned (.int .i64 (idxOf p l)) ∧ Ext w w' := by
  obtain ⟨a, cap, rfl⟩ := hv.shape
  have HP := Lib.hid hp
  clear hp
  go_enter Try.func71, Try.ntmps71
  go_wp2
  go_loopw [8] (fun i wr => ∃ k : Nat, k ≤ l.length ∧ i = .int .i64 k ∧ Hid (∀ j x, j < k → l[j]? = some x → p x = false) ∧ Ext w wr) (fun i _ => l.length - (intOf i).toNat)
  case atStart => exact ⟨0, Nat.zero_le _, rfl, Lib.hid fun j x h => by omega, Ext.refl _⟩
  case round =>
    obtain ⟨k, hk, rfl, HALL, hE⟩ := hrel
    by_cases hlt : k < l.length
    · have hv1 := hv.mono hE
      obtain ⟨b, off, rfl, hc⟩ := Reads.elems Trig.enc_len hv1 (by omega)
      obtain ⟨⟨p1, p2, p3⟩, hx⟩ := get_of_lt hlt
      have c0 := hc k _ hx 0 _ rfl
      have c1 := hc k _ hx 1 _ rfl
      have c2 := hc k _ hx 2 _ rfl
      simp only [Nat.add_zero] at c0
      have HX := Lib.hid hx
      clear hc hx hv1
      cases hpx : p ⟨p1, p2, p3⟩
      case false =>
        go_wp2_with fail
        refine (HP.out ⟨p1, p2, p3⟩ _ hE).mono ?_
        rintro e w2 ⟨rfl, E2⟩
        have hE2 := hE.trans E2
        clear c0 c1 c2
        go_wp2
        go_roundw
        case rel =>
          refine ⟨k + 1, by omega, by go_num, Lib.hid fun j x hj hx => ?_, hE2⟩
          by_cases hjk : j < k
          · exact HALL.out j x hjk hx
          · have : j = k := by omega
            subst this
            have := hx.symm.trans HX.out
            simp only [Option.some.injEq] at this
            rw [this]; exact hpx
        case measure => simp [intOf]; omega
      case true =>
        have HR := Lib.hid (idxOf_at HX.out hpx HALL.out)
        go_wp2_with fail
        refine (HP.out ⟨p1, p2, p3⟩ _ hE).mono ?_
        rintro e w2 ⟨rfl, E2⟩
        have hE2 := hE.trans E2
        clear c0 c1 c2
        go_wp2
        go_ret
        exact ⟨ret_int HR.out.symm, hE2⟩
    · have HR := Lib.hid (idxOf_none (p := p) (l := l) fun j x hx => HALL.out j x (by have := (List.getElem?_eq_some_iff.1 hx).1; omega) hx)
      go_wp2
      go_ret
      exact ⟨ret_int HR.out.symm, hE⟩
set_option maxHeartbeats 1000000 in
theorem containsFuncTrigger_ok (f : FuncId) (caps : Array Value) (p : Trig → Bool) (l : List Trig) (v : Value) (w : World) (hent : ∀ args w, (callFunc f args).run Try.prog w = .ok (.enter f args) w)
    (hp : ∀ (x : Trig) (w' : World), Ext w w' → Calls Try.prog f (#[(.agg #[.int .i64 x.ev, .int .i64 x.af, .int .i64 x.dy])] ++ caps) w' fun e w'' => e = .returned (.bool (p x)) ∧ Ext w' w'')
    (hv : Reads w 3 v l.length (l.flatMap Trig.enc)) (hl : l.length ≤ 1048576) :
    Calls Try.prog 97 #[v, .func (.func f) #[] caps] w fun e w' => e = .returned (.bool (l.any p)) ∧ Ext w w' := by
  have HB := Lib.hid (idxOf_any p l)
  have HP := Lib.hid hp
  clear hp
  go_enter Try.func97, Try.ntmps97
  go_wp2_with fail
  refine (indexFuncTrigger_ok f caps p l v w hent HP.out hv hl).mono ?_
  rintro e w1 ⟨rfl, E1⟩
  go_wp2
  go_ret
  exact ⟨ret_bool HB.out, E1⟩
set_option maxHeartbeats 1000000 in
theorem cloneTrigger_ok (l : List Trig) (v : Value) (w : World) (hv : Reads w 3 v l.length (l.flatMap Trig.enc)) (hl : l.length ≤ 1048576) :
    Calls Try.prog 52 #[v] w (RetOwn w 58 3 l.length (l.flatMap Trig.enc)) := by
  obtain ⟨a, cap, rfl⟩ := hv.shape
  have heq := fun w' => Lib.run_eql_slice_nil (P := Try.prog) w' 28 58 a l.length cap 0 0 Try.underlying28
  cases a with
  | none =>
    have HL : Hid (l = []) := by
      obtain ⟨_, a', cap', h1, h2⟩ := hv
      simp only [Value.slice.injEq] at h1
      obtain ⟨rfl, _, rfl⟩ := h1
      rcases h2 with h2 | ⟨b, off, h2, _⟩
      · exact List.eq_nil_of_length_eq_zero h2
      · cases h2
    go_enter Try.func52, Try.ntmps52
    go_wp2
    go_ret
    rw [HL.out]
    exact ⟨_, rfl, World.ownsRow_nil w _ _ _, Ext.refl _⟩
  | some ad =>
    have hc : ∀ o, ∀ j u, (l.flatMap Trig.enc)[j]? = some u → (w.alloc o).cell? (ad.add j) = some u := by
      intro o j u hu
      have hj := (List.getElem?_eq_some_iff.1 hu).1
      have hlen := flat_length Trig.enc 3 Trig.enc_len l
      obtain ⟨_, b, off, ha, hc⟩ := hv.at (by omega)
      simp only [Option.some.injEq] at ha
      subst ha
      have := hc j (by omega)
      rw [hu] at this
      have hadd : (⟨b, off, none⟩ : Addr).add j = ⟨b, off + j, none⟩ := by unfold Addr.add; split <;> simp_all
      rw [hadd]
      exact ((Ext.refl w).alloc o).cell this
    have HC := Lib.hid hc
    clear hc
    go_enter Try.func52, Try.ntmps52
    go_wp2_with (at_builtin; refine wpl_appendN w (w.alloc (.cells #[] 58)) rfl _ _ 28 rfl 58 _ 3 24 Try.underlying28 Try.infoSTrigger rfl (by decide) (by decide) _ 0 [] ?c0 (owns_empty w w.heap.size _ _ (Nat.le_refl _)) ad l.length cap (l.flatMap Trig.enc) rfl rfl ?c1 ?c2 ?c3 ?c4 ?_)
    case c0 => exact (Ext.refl w).alloc _
    case c1 => exact flat_length Trig.enc 3 Trig.enc_len l
    case c2 => exact HC.out _
    case c3 => exact flat_one Trig.one l
    case c4 => omega
    intro v' w2 o2 E2
    go_wp2
    go_ret
    exact ⟨_, rfl, by simpa using o2, E2⟩
set_option maxHeartbeats 2000000 in
theorem deleteFuncTrigger_ok (base : Nat) (f : FuncId) (caps : Array Value) (p : Trig → Bool) (l : List Trig) (v : Value) (w : World) (hent : ∀ args w, (callFunc f args).run Try.prog w = .ok (.enter f args) w)
    (hp : ∀ (x : Trig) (w' : World), Below base w w' → Calls Try.prog f (#[(.agg #[.int .i64 x.ev, .int .i64 x.af, .int .i64 x.dy])] ++ caps) w' fun e w'' => e = .returned (.bool (p x)) ∧ Ext w' w'')
    (hv : w.ownsRow base 58 3 v l.length (l.flatMap Trig.enc)) (hl : l.length ≤ 1048576) (hbase : base ≤ w.heap.size) :
    Calls Try.prog 51 #[v, .func (.func f) #[] caps] w (RetOwnFrom base w 58 3 (l.filter fun x => !p x).length ((l.filter fun x => !p x).flatMap Trig.enc)) := by
  have HI := Lib.hid (indexFuncTrigger_ok f caps p l v w hent (fun x w' h => hp x w' (Below.mono h hbase)) (Reads.of_owns hv) hl)
  have HP := Lib.hid hp
  clear hp
  cases hany : l.any p
  case false =>
    have HN := Lib.hid (idxOf_none (p := p) (l := l) fun j x hx => by
      have := List.any_eq_false.1 hany x (List.mem_of_getElem? hx)
      simpa using this)
    have HF : Hid ((l.filter fun x => !p x) = l) := (List.filter_eq_self.2 fun x hx => by
      have := List.any_eq_false.1 hany x hx
      simpa using this : (l.filter fun x => !p x) = l)
    clear hany
    go_enter Try.func51, Try.ntmps51
    go_wp2_with fail
    refine HI.out.mono ?_
    rintro e w1 ⟨rfl, E1⟩
    rw [HN.out]
    go_wp2
    go_ret
    rw [HF.out]
    exact ⟨_, rfl, E1.owns hv, Below.mono E1 hbase⟩
  obtain ⟨i0, x0, hx0, hpx0, hall0⟩ := first_of_any hany
  have HN := Lib.hid (idxOf_at hx0 hpx0 hall0)
  have hi0 : i0 < l.length := (List.getElem?_eq_some_iff.1 hx0).1
  have HK := Lib.hid (filter_first hx0 hpx0 hall0)
  clear hany hx0 hpx0 hall0
  rcases owns_cases hv with ⟨rfl, h0⟩ | ⟨g, cap, rfl, hg, hgs, hnc, hcm, hfil⟩
  · omega
  have HV := Lib.hid hv
  have HCM := Lib.hid hcm
  have hcap63 : cap ≤ 9223372036854775807 := by unfold maxLen at hcm; omega
  clear hv hcm hfil
  have q0 : ((i0 : Int) == -1) = false := beq_eq_false_iff_ne.2 (by omega)
  go_enter Try.func51, Try.ntmps51
  go_wp2_with fail
  refine HI.out.mono ?_
  rintro e w1 ⟨rfl, E1⟩
  rw [HN.out]
  have o1 := E1.owns HV.out
  have hgs1 : g < w1.heap.size := by have := E1.size; omega
  have hfil1 : Filled w1 g 58 (cap * 3) ((l.take i0).flatMap Trig.enc) := Filled.of_owns_take Trig.enc_len o1 (by omega)
  have hrest1 : Hid (∀ t, (i0 + 1) * 3 ≤ t → t < l.length * 3 → w1.cell? ⟨g, t, none⟩ = (l.flatMap Trig.enc)[t]?) := Lib.hid fun t _ ht => o1.cellAt t ht
  have B1 : Below base w w1 := Below.mono E1 hbase
  clear o1 E1
  go_wp2
  go_loopw [5, 6] (fun ii jj wr => ∃ i j : Nat, i < j ∧ j ≤ l.length ∧ ii = .int .i64 i ∧ jj = .int .i64 j ∧ Hid (((l.take j).filter fun x => !p x).length = i) ∧ Filled wr g 58 (cap * 3) (((l.take j).filter fun x => !p x).flatMap Trig.enc) ∧ Hid (∀ t, j * 3 ≤ t → t < l.length * 3 → wr.cell? ⟨g, t, none⟩ = (l.flatMap Trig.enc)[t]?) ∧ g < wr.heap.size ∧ Below base w wr) (fun _ jj _ => l.length - (intOf jj).toNat)
  case atStart => exact ⟨i0, i0 + 1, by omega, by omega, rfl, by first | rfl | go_num, Lib.hid (by rw [HK.out, List.length_take]; omega), by rw [HK.out]; exact hfil1, hrest1, hgs1, B1⟩
  case round =>
    obtain ⟨i, j, hij, hj, rfl, rfl, HLEN, hfl, HREST, hgr, hB⟩ := hrel
    by_cases hlt : j < l.length
    · obtain ⟨⟨p1, p2, p3⟩, hx⟩ := get_of_lt hlt
      have c0 := HREST.out (j * 3) (by omega) (by omega)
      have c1 := HREST.out (j * 3 + 1) (by omega) (by omega)
      have c2 := HREST.out (j * 3 + 2) (by omega) (by omega)
      rw [show (l.flatMap Trig.enc)[j * 3]? = some (.int .i64 p1) from flat_some Trig.enc_len hx (j := 0) rfl] at c0
      rw [show (l.flatMap Trig.enc)[j * 3 + 1]? = some (.int .i64 p2) from flat_some Trig.enc_len hx (j := 1) rfl] at c1
      rw [show (l.flatMap Trig.enc)[j * 3 + 2]? = some (.int .i64 p3) from flat_some Trig.enc_len hx (j := 2) rfl] at c2
      have HS := Lib.hid (filter_step (fun x => !p x) l j _ hx)
      clear hx
      cases hpx : p ⟨p1, p2, p3⟩
      case true =>
        go_wp2_with fail
        refine (HP.out ⟨p1, p2, p3⟩ _ (hB.alloc (by have := hB.size; omega) _)).mono ?_
        rintro e w2 ⟨rfl, E2⟩
        have E2' := Ext.trans ((Ext.refl wr).alloc _) E2
        clear c0 c1 c2
        go_wp2
        go_roundw
        case rel =>
          refine ⟨i, j + 1, by omega, by omega, rfl, by go_num, Lib.hid ?_, ?_, Lib.hid fun t h1 h2 => ?_, by have := E2'.size; omega, hB.trans (Below.mono E2' (by omega))⟩
          · rw [HS.out, hpx]; simpa using HLEN.out
          · rw [HS.out, hpx]; simpa using hfl.ext E2'
          · have h3 := HREST.out t (by omega) h2
            have h4 : (l.flatMap Trig.enc)[t]? = some ((l.flatMap Trig.enc)[t]'(by rw [flat_length Trig.enc 3 Trig.enc_len]; exact h2)) := List.getElem?_eq_getElem _
            rw [h4] at h3 ⊢
            exact E2'.cell h3
        case measure => simp [intOf]; omega
      case false =>
        go_wp2_with fail
        refine (HP.out ⟨p1, p2, p3⟩ _ (hB.alloc (by have := hB.size; omega) _)).mono ?_
        rintro e w2 ⟨rfl, E2⟩
        have E2' := Ext.trans ((Ext.refl wr).alloc _) E2
        have hfl2 := hfl.ext E2'
        have hsz2 : wr.heap.size < w2.heap.size := by have := E2.size; simp at this; omega
        have t0 : w2.cell? ⟨wr.heap.size, 0, none⟩ = some (.int .i64 p1) := E2.cell (by simp)
        have t1 : w2.cell? ⟨wr.heap.size, 1, none⟩ = some (.int .i64 p2) := E2.cell (by simp)
        have t2 : w2.cell? ⟨wr.heap.size, 2, none⟩ = some (.int .i64 p3) := E2.cell (by simp)
        obtain ⟨z0, hz0⟩ := hfl2.cell (i := i * 3) (by omega)
        obtain ⟨z1, hz1⟩ := hfl2.cell (i := i * 3 + 1) (by omega)
        obtain ⟨z2, hz2⟩ := hfl2.cell (i := i * 3 + 2) (by omega)
        have f0 := hfl2.frozen (i * 3)
        have f1 := hfl2.frozen (i * 3 + 1)
        have f2 := hfl2.frozen (i * 3 + 2)
        clear c0 c1 c2
        go_wp2
        go_roundw
        case rel =>
          have e3 : (((l.take j).filter fun x => !p x).flatMap Trig.enc).length = i * 3 := by rw [flat_length Trig.enc 3 Trig.enc_len, HLEN.out]
          have p0 := hfl2.put' e3 (by omega) (.int .i64 p1)
          have p1 := p0.put' (i := i * 3 + 1) (by simp [e3]) (by omega) (.int .i64 p2)
          have p2 := p1.put' (i := i * 3 + 2) (by simp [e3]) (by omega) (.int .i64 p3)
          refine ⟨i + 1, j + 1, by omega, by omega, by go_num, by go_num, Lib.hid ?_, ?_, Lib.hid fun t h1 h2 => ?_, by have := E2'.size; simp [World.setCell]; omega, ((((hB.trans (Below.mono E2' (by omega))).setCell hg _).setCell hg _).setCell hg _)⟩
          · rw [HS.out, hpx]; simp [HLEN.out]
          · rw [HS.out, hpx]; simpa [Trig.enc] using p2
          · have h3 := HREST.out t (by omega) h2
            have h4 : (l.flatMap Trig.enc)[t]? = some ((l.flatMap Trig.enc)[t]'(by rw [flat_length Trig.enc 3 Trig.enc_len]; exact h2)) := List.getElem?_eq_getElem _
            rw [h4] at h3 ⊢
            rw [World.cell?_setCell_other _ _ _ _ (by simp <;> omega)]
            rw [World.cell?_setCell_other _ _ _ _ (by simp <;> omega)]
            rw [World.cell?_setCell_other _ _ _ _ (by simp <;> omega)]
            exact E2'.cell h3
        case measure => simp [intOf]; omega
    · have hjn : j = l.length := by omega
      subst hjn
      obtain ⟨cur, hcur, hcs, htake⟩ := hfl
      rw [List.take_length] at HLEN htake
      have e3 : ((l.filter fun x => !p x).flatMap Trig.enc).length = i * 3 := by rw [flat_length Trig.enc 3 Trig.enc_len, HLEN.out]
      obtain ⟨vs, hvl, hcl⟩ := run_clear_row (P := Try.prog) wr 28 58 _ 3 24 Try.underlying28 Try.infoSTrigger rfl (by simp [Value.cells, Value.oneCell']) (by decide) g (i * 3) (l.length - i) (cap - i) cur hcur (by omega) (by omega)
      have hF : Filled (wr.setRow g (cur.toList.take (i * 3) ++ vs ++ cur.toList.drop (i * 3 + (l.length - i) * 3)).toArray) g 58 (cap * 3) ((l.filter fun x => !p x).flatMap Trig.enc) := by
        have h5 : cur.toList.take (i * 3) = (l.filter fun x => !p x).flatMap Trig.enc := by rw [← htake, e3]
        rw [h5]
        exact setRow_filled hcur (by simp [e3, hvl]; omega)
      have hB2 := below_setRow hB hg (cur.toList.take (i * 3) ++ vs ++ cur.toList.drop (i * 3 + (l.length - i) * 3)).toArray
      have HEND := Lib.hid (hF.owns_cap (base := base) (n := i) e3 hg (by omega) HCM.out)
      generalize wr.setRow g (cur.toList.take (i * 3) ++ vs ++ cur.toList.drop (i * 3 + (l.length - i) * 3)).toArray = w9 at hcl hF hB2 HEND
      clear hF htake hcs hcur hvl e3
      have nc : ¬ cap - i = 0 := by omega
      go_wp2
      go_ret
      exact ⟨_, rfl, by rw [HLEN.out]; exact HEND.out, hB2⟩
end Go.Proofs.Yteaaiiodnejmmaa
