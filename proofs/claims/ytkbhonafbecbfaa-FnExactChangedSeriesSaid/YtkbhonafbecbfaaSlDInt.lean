/- What the library's small functions on slices of Int compute; no condition beyond the lengths that are named. -/
import Derived.Test.YtkbhonafbecbfaaRows
import Derived.Test.YtkbhonafbecbfaaData
import Derived.WalkSpells
import Derived.Lib.SliceRun
namespace Go.Proofs.Ytkbhonafbecbfaa
open Go.RowKit Go.Sort Go.Rd

theorem Try.infoSInt : (Try.prog.info? 3).map (fun i => (i.zero, i.size, i.bytes)) = some (some (.int .i64 0), 1, 8) := by kernel_rfl
set_option maxHeartbeats 1000000 in
theorem indexFuncInt_ok (f : FuncId) (caps : Array Value) (p : Int → Bool) (l : List Int) (v : Value) (w : World) (hent : ∀ args w, (callFunc f args).run Try.prog w = .ok (.enter f args) w)
    (hp : ∀ (x : Int) (w' : World), Ext w w' → Calls Try.prog f (#[(.int .i64 x)] ++ caps) w' fun e w'' => e = .returned (.bool (p x)) ∧ Ext w' w'')
    (hv : Reads w 1 v l.length (l.flatMap encI)) (hl : l.length ≤ 1048576) :
    Calls Try.prog 138 #[v, .func (.func f) #[] caps] w fun e w' => e = .returned (.int .i64 (idxOf p l)) ∧ Ext w w' := by
  obtain ⟨a, cap, rfl⟩ := hv.shape
  have HP := Lib.hid hp
  clear hp
  go_enter Try.func138, Try.ntmps138
  go_wp2
  go_loopw [8] (fun i wr => ∃ k : Nat, k ≤ l.length ∧ i = .int .i64 k ∧ Hid (∀ j x, j < k → l[j]? = some x → p x = false) ∧ Ext w wr) (fun i _ => l.length - (intOf i).toNat)
  case atStart => exact ⟨0, Nat.zero_le _, rfl, Lib.hid fun j x h => by omega, Ext.refl _⟩
  case round =>
    obtain ⟨k, hk, rfl, HALL, hE⟩ := hrel
    by_cases hlt : k < l.length
    · have hv1 := hv.mono hE
      obtain ⟨b, off, rfl, hc⟩ := Reads.elems encI_len hv1 (by omega)
      obtain ⟨p1, hx⟩ := get_of_lt hlt
      have c0 := hc k _ hx 0 _ rfl
      simp only [Nat.add_zero, Nat.mul_one] at c0
      have HX := Lib.hid hx
      clear hc hx hv1
      cases hpx : p p1
      case false =>
        go_wp2_with fail
        refine (HP.out p1 _ hE).mono ?_
        rintro e w2 ⟨rfl, E2⟩
        have hE2 := hE.trans E2
        clear c0
        go_wp2
        go_roundw
        case rel =>
          refine ⟨k + 1, by omega, by go_num, Lib.hid fun j x hj hx => ?_, hE2⟩
          by_cases hjk : j < k
          · exact HALL.out j x hjk hx
          · have : j = k := by omega
            subst this
            have := hx.symm.trans HX.out
            simp only [Option.some.injEq] at this
            rw [this]; exact hpx
        case measure => simp [intOf]; omega
      case true =>
        have HR := Lib.hid (idxOf_at HX.out hpx HALL.out)
        go_wp2_with fail
        refine (HP.out p1 _ hE).mono ?_
        rintro e w2 ⟨rfl, E2⟩
        have hE2 := hE.trans E2
        clear c0
        go_wp2
        go_ret
        exact ⟨ret_int HR.out.symm, hE2⟩
    · have HR := Lib.hid (idxOf_none (p := p) (l := l) fun j x hx => HALL.out j x (by have := (List.getElem?_eq_some_iff.1 hx).1; omega) hx)
      go_wp2
      go_ret
      exact ⟨ret_int HR.out.symm, hE⟩
set_option maxHeartbeats 2000000 in
theorem deleteFuncInt_ok (base : Nat) (f : FuncId) (caps : Array Value) (p : Int → Bool) (l : List Int) (v : Value) (w : World) (hent : ∀ args w, (callFunc f args).run Try.prog w = .ok (.enter f args) w)
    (hp : ∀ (x : Int) (w' : World), Below base w w' → Calls Try.prog f (#[(.int .i64 x)] ++ caps) w' fun e w'' => e = .returned (.bool (p x)) ∧ Ext w' w'')
    (hv : w.ownsRow base 3 1 v l.length (l.flatMap encI)) (hl : l.length ≤ 1048576) (hbase : base ≤ w.heap.size) :
    Calls Try.prog 102 #[v, .func (.func f) #[] caps] w (RetOwnFrom base w 3 1 (l.filter fun x => !p x).length ((l.filter fun x => !p x).flatMap encI)) := by
  have HI := Lib.hid (indexFuncInt_ok f caps p l v w hent (fun x w' h => hp x w' (Below.mono h hbase)) (Reads.of_owns hv) hl)
  have HP := Lib.hid hp
  clear hp
  cases hany : l.any p
  case false =>
    have HN := Lib.hid (idxOf_none (p := p) (l := l) fun j x hx => by
      have := List.any_eq_false.1 hany x (List.mem_of_getElem? hx)
      simpa using this)
    have HF : Hid ((l.filter fun x => !p x) = l) := (List.filter_eq_self.2 fun x hx => by
      have := List.any_eq_false.1 hany x hx
      simpa using this : (l.filter fun x => !p x) = l)
    clear hany
    go_enter Try.func102, Try.ntmps102
    go_wp2_with fail
    refine HI.out.mono ?_
    rintro e w1 ⟨rfl, E1⟩
    rw [HN.out]
    go_wp2
    go_ret
    rw [HF.out]
    exact ⟨_, rfl, E1.owns hv, Below.mono E1 hbase⟩
  obtain ⟨i0, x0, hx0, hpx0, hall0⟩ := first_of_any hany
  have HN := Lib.hid (idxOf_at hx0 hpx0 hall0)
  have hi0 : i0 < l.length := (List.getElem?_eq_some_iff.1 hx0).1
  have HK := Lib.hid (filter_first hx0 hpx0 hall0)
  clear hany hx0 hpx0 hall0
  rcases owns_cases hv with ⟨rfl, h0⟩ | ⟨g, cap, rfl, hg, hgs, hnc, hcm, hfil⟩
  · omega
  have HV := Lib.hid hv
  have HCM := Lib.hid hcm
  have hcap63 : cap ≤ 9223372036854775807 := by unfold maxLen at hcm; omega
  clear hv hcm hfil
  have q0 : ((i0 : Int) == -1) = false := beq_eq_false_iff_ne.2 (by omega)
  go_enter Try.func102, Try.ntmps102
  go_wp2_with fail
  refine HI.out.mono ?_
  rintro e w1 ⟨rfl, E1⟩
  rw [HN.out]
  have o1 := E1.owns HV.out
  have hgs1 : g < w1.heap.size := by have := E1.size; omega
  have hfil1 : Filled w1 g 3 (cap * 1) ((l.take i0).flatMap encI) := Filled.of_owns_take encI_len o1 (by omega)
  have hrest1 : Hid (∀ t, (i0 + 1) * 1 ≤ t → t < l.length * 1 → w1.cell? ⟨g, t, none⟩ = (l.flatMap encI)[t]?) := Lib.hid fun t _ ht => o1.cellAt t ht
  have B1 : Below base w w1 := Below.mono E1 hbase
  clear o1 E1
  go_wp2
  go_loopw [5, 6] (fun ii jj wr => ∃ i j : Nat, i < j ∧ j ≤ l.length ∧ ii = .int .i64 i ∧ jj = .int .i64 j ∧ Hid (((l.take j).filter fun x => !p x).length = i) ∧ Filled wr g 3 (cap * 1) (((l.take j).filter fun x => !p x).flatMap encI) ∧ Hid (∀ t, j * 1 ≤ t → t < l.length * 1 → wr.cell? ⟨g, t, none⟩ = (l.flatMap encI)[t]?) ∧ g < wr.heap.size ∧ Below base w wr) (fun _ jj _ => l.length - (intOf jj).toNat)
  case atStart => exact ⟨i0, i0 + 1, by omega, by omega, rfl, by first | rfl | go_num, Lib.hid (by rw [HK.out, List.length_take]; omega), by rw [HK.out]; exact hfil1, hrest1, hgs1, B1⟩
  case round =>
    obtain ⟨i, j, hij, hj, rfl, rfl, HLEN, hfl, HREST, hgr, hB⟩ := hrel
    by_cases hlt : j < l.length
    · obtain ⟨p1, hx⟩ := get_of_lt hlt
      have c0 := HREST.out (j * 1) (by omega) (by omega)
      rw [show (l.flatMap encI)[j * 1]? = some (.int .i64 p1) from flat_some encI_len hx (j := 0) rfl] at c0
      rw [Nat.mul_one] at c0
      have HS := Lib.hid (filter_step (fun x => !p x) l j _ hx)
      clear hx
      cases hpx : p p1
      case true =>
        go_wp2_with fail
        refine (HP.out p1 _ hB).mono ?_
        rintro e w2 ⟨rfl, E2⟩
        have E2' := E2
        clear c0
        go_wp2
        go_roundw
        case rel =>
          refine ⟨i, j + 1, by omega, by omega, rfl, by go_num, Lib.hid ?_, ?_, Lib.hid fun t h1 h2 => ?_, by have := E2'.size; omega, hB.trans (Below.mono E2' (by omega))⟩
          · rw [HS.out, hpx]; simpa using HLEN.out
          · rw [HS.out, hpx]; simpa using hfl.ext E2'
          · have h3 := HREST.out t (by omega) h2
            have h4 : (l.flatMap encI)[t]? = some ((l.flatMap encI)[t]'(by rw [flat_length encI 1 encI_len]; exact h2)) := List.getElem?_eq_getElem _
            rw [h4] at h3 ⊢
            exact E2'.cell h3
        case measure => simp [intOf]; omega
      case false =>
        go_wp2_with fail
        refine (HP.out p1 _ hB).mono ?_
        rintro e w2 ⟨rfl, E2⟩
        have E2' := E2
        have hfl2 := hfl.ext E2'
        obtain ⟨z0, hz0⟩ := hfl2.cell (i := i * 1) (by omega)
        have f0 := hfl2.frozen (i * 1)
        rw [Nat.mul_one] at hz0 f0
        clear c0
        go_wp2
        go_roundw
        case rel =>
          have e3 : (((l.take j).filter fun x => !p x).flatMap encI).length = i * 1 := by rw [flat_length encI 1 encI_len, HLEN.out]
          have p0 := hfl2.put' e3 (by omega) (.int .i64 p1)
          refine ⟨i + 1, j + 1, by omega, by omega, by go_num, by go_num, Lib.hid ?_, ?_, Lib.hid fun t h1 h2 => ?_, by have := E2'.size; simp [World.setCell]; omega, ((hB.trans (Below.mono E2' (by omega))).setCell hg _)⟩
          · rw [HS.out, hpx]; simp [HLEN.out]
          · rw [HS.out, hpx]; simpa [encI] using p0
          · have h3 := HREST.out t (by omega) h2
            have h4 : (l.flatMap encI)[t]? = some ((l.flatMap encI)[t]'(by rw [flat_length encI 1 encI_len]; exact h2)) := List.getElem?_eq_getElem _
            rw [h4] at h3 ⊢
            rw [World.cell?_setCell_other _ _ _ _ (by simp <;> omega)]
            exact E2'.cell h3
        case measure => simp [intOf]; omega
    · have hjn : j = l.length := by omega
      subst hjn
      obtain ⟨cur, hcur, hcs, htake⟩ := hfl
      rw [List.take_length] at HLEN htake
      have e3 : ((l.filter fun x => !p x).flatMap encI).length = i * 1 := by rw [flat_length encI 1 encI_len, HLEN.out]
      obtain ⟨vs, hvl, hcl⟩ := run_clear_row (P := Try.prog) wr 67 3 _ 1 8 Try.underlying67 Try.infoSInt rfl (by simp [Value.cells, Value.oneCell']) (by decide) g (i) (l.length - i) (cap - i) cur hcur (by omega) (by omega)
      have hF : Filled (wr.setRow g (cur.toList.take (i) ++ vs ++ cur.toList.drop (i + (l.length - i) * 1)).toArray) g 3 (cap * 1) ((l.filter fun x => !p x).flatMap encI) := by
        have h5 : cur.toList.take (i) = (l.filter fun x => !p x).flatMap encI := by rw [← htake, e3, Nat.mul_one]
        rw [h5]
        exact setRow_filled hcur (by simp [e3, hvl]; omega)
      have hB2 := below_setRow hB hg (cur.toList.take (i) ++ vs ++ cur.toList.drop (i + (l.length - i) * 1)).toArray
      have HEND := Lib.hid (hF.owns_cap (base := base) (n := i) e3 hg (by omega) HCM.out)
      generalize wr.setRow g (cur.toList.take (i) ++ vs ++ cur.toList.drop (i + (l.length - i) * 1)).toArray = w9 at hcl hF hB2 HEND
      clear hF htake hcs hcur hvl e3
      have nc : ¬ cap - i = 0 := by omega
      go_wp2
      go_ret
      exact ⟨_, rfl, by rw [HLEN.out]; exact HEND.out, hB2⟩
end Go.Proofs.Ytkbhonafbecbfaa
