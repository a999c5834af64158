/- What the program's ReleaseHold computes; no condition beyond the lengths that are named. -/
import Derived.Test.YtkbhonafbecbfaaRelData
import Derived.Test.YtkbhonafbecbfaaCopyNHold
import Derived.Test.YtkbhonafbecbfaaHoldsL
import Derived.Test.YtkbhonafbecbfaaSlNHold
import Derived.Shelf.Abstract
namespace Go.Rd
theorem idxOf_cases {α : Type} (p : α → Bool) (l : List α) : (idxOf p l = -1 ∧ ∀ (j : Nat) y, l[j]? = some y → p y = false) ∨ ∃ (k : Nat) (x : α), idxOf p l = k ∧ l[k]? = some x ∧ p x = true := by
  cases h : l.findIdx? p with
  | none =>
    left
    refine ⟨by unfold idxOf; rw [h], fun j y hy => ?_⟩
    rw [List.findIdx?_eq_none_iff] at h
    exact h y (List.mem_of_getElem? hy)
  | some k =>
    right
    obtain ⟨hk, hp, _⟩ := List.findIdx?_eq_some_iff_getElem.1 h
    exact ⟨k, l[k], by unfold idxOf; rw [h], List.getElem?_eq_getElem hk, hp⟩
end Go.Rd
namespace Go.Proofs.Ytkbhonafbecbfaa
open Go.RowKit Go.Sort Go.Rd
set_option maxHeartbeats 400000 in
theorem rel1_ok (x : Hld) (sv : Value) (id : Int) (b : Nat) (w : World) (hat : Hld.At w (x, sv)) (hc : w.cell? ⟨b, 0, none⟩ = some (.int .i64 id)) :
    Calls Try.prog 56 #[.agg #[.int .i64 x.id, .int .i64 x.fr, .int .i64 x.un, sv, .int .i64 x.fi, .int .i64 x.la], .pointer (some ⟨b, 0, none⟩)] w fun e w' => e = .returned (.bool (x.id == id)) ∧ Ext w w' := by
  obtain ⟨p1, p2, p3, p4, p5, p6⟩ := x
  obtain ⟨a, c, hs⟩ := Reads.shape hat
  simp only at hs
  subst hs
  have hb := block_lt_of_cell hc
  have hne : b ≠ w.heap.size := by have : b < w.heap.size := hb; omega
  have hc2 := cell_alloc hc
  clear hat
  go_enter Try.func56, Try.ntmps56
  go_wp2
  go_ret
  exact ⟨rfl, (Ext.refl _).alloc _⟩
theorem enters_rel1 : ∀ args w, (callFunc 56 args).run Try.prog w = .ok (.enter 56 args) w := enters_of Try.func56 (by kernel_rfl) rfl
set_option maxHeartbeats 4000000 in
theorem releaseHold_ok (l : List Hld) (id day : Int) (v : Value) (w : World) (hv : Hld.Rd w v l) (hl : l.length ≤ 1048576) (hll : ∀ r ∈ l, r.ss.length ≤ 1048576) :
    Calls Try.prog 12 #[v, .int .i64 id, .int .i64 day] w fun e w' => ∃ v', e = .returned (.tuple #[v', .bool (relO l id day).isSome]) ∧ Hld.OwnX 93 3 w' w.heap.size ((relO l id day).getD []) v' ∧ Ext w w' := by
  obtain ⟨X, hX⟩ : ∃ X, relO l id day = X := ⟨_, rfl⟩
  have HX := Lib.hid hX
  rw [hX]
  clear hX
  have HCOPY : Hid (∀ w1, Ext w w1 → Calls Try.prog 59 #[v] w1 fun e w' => ∃ v', e = .returned v' ∧ Hld.OwnX 93 3 w' w1.heap.size l v' ∧ Ext w1 w') := Lib.hid fun w1 hE => by
    obtain ⟨pl, hpl, hal⟩ := hv.mono hE
    subst hpl
    exact copyHolds_ok pl v w1 hal (by simpa using hl) (fun p hp => hll p.1 (List.mem_map_of_mem hp))
  have HV := Lib.hid hv
  obtain ⟨va, vc, hvs⟩ := hv.shape
  subst hvs
  have HLL := Lib.hid hll
  obtain ⟨w2, hw2⟩ : ∃ x, x = w.alloc (.cells #[.int .i64 id] 3) := ⟨_, rfl⟩
  have E2 : Ext w w2 := by rw [hw2]; exact (Ext.refl w).alloc _
  have k1 : w2.cell? ⟨w.heap.size, 0, none⟩ = some (.int .i64 id) := by rw [hw2]; simp
  have HI := Lib.hid (indexFuncHold_ok 56 #[.pointer (some ⟨w.heap.size, 0, none⟩)] (fun h => h.id == id) l (.slice va l.length vc) w2 enters_rel1 (fun x sv w' _ hat hE => rel1_ok x sv id _ w' hat (hE.cell k1)) (hv.mono E2) hl)
  clear hv hll k1
  go_enter Try.func12, Try.ntmps12
  go_wp2_with fail
  rw [← hw2]
  clear hw2
  refine HI.out.mono ?_
  rintro e w3 ⟨rfl, E3⟩
  have E3' := Ext.trans E2 E3
  have HG := Lib.hid (areHolds_ok l _ w3 (HV.out.mono E3') hl HLL.out)
  obtain ⟨ix, hix⟩ : ∃ ix, idxOf (fun h : Hld => h.id == id) l = ix := ⟨_, rfl⟩
  have HIX := Lib.hid hix
  rw [hix]
  clear hix HI
  go_wp2_with fail
  refine HG.out.mono ?_
  rintro e w4 ⟨rfl, E4⟩
  have E4' := Ext.trans E3' E4
  clear HG
  cases hg : goodHs l
  case false =>
    have HN : Hid (X = none) := Lib.hid (by rw [← HX.out]; exact relO_bad hg)
    go_wp2
    go_ret2
    rw [HN.out]
    exact ⟨_, rfl, Hld.OwnX.nil _ _ _ _, E4'⟩
  rcases idxOf_cases (fun h : Hld => h.id == id) l with ⟨h1, h2⟩ | ⟨k, r, h1, hx, hp⟩
  · have HN : Hid (X = none) := Lib.hid (by rw [← HX.out]; exact relO_none fun j y hy => by have : (y.id == id) = false := h2 j y hy; simp [relP, this])
    obtain rfl : ix = -1 := by rw [← HIX.out, h1]
    clear h2 h1
    go_wp2
    go_ret2
    rw [HN.out]
    exact ⟨_, rfl, Hld.OwnX.nil _ _ _ _, E4'⟩
  obtain rfl : ix = (k : Int) := by rw [← HIX.out, h1]
  have hid : r.id = id := by simpa using hp
  have HID := Lib.hid hid
  have HX2 := Lib.hid hx
  have hkl := (List.getElem?_eq_some_iff.1 hx).1
  have hv4 := HV.out.mono E4'
  obtain ⟨b, off, hab⟩ := Hld.Rd.addr hv4 (by omega)
  subst hab
  obtain ⟨ca, cc, c0, c1, c2, c3, c4, c5, _⟩ := Hld.Rd.cells hv4 hx
  have n1 : (k : Int) < (l.length : Int) := by omega
  have n0 : (0 : Int) ≤ (k : Int) := by omega
  clear h1 hp hx hv4 hid c0 c1 c3 c4 c5 HIX
  by_cases q : 0 ≤ r.un
  case pos =>
    have HN : Hid (X = none) := Lib.hid (by rw [← HX.out]; exact relO_only hg HX2.out HID.out (relP_un q))
    go_wp2
    go_ret2
    rw [HN.out]
    exact ⟨_, rfl, Hld.OwnX.nil _ _ _ _, E4'⟩
  go_wp2_with fail
  refine (isDay_ok day _).mono ?_
  rintro e w5 ⟨rfl, rfl⟩
  cases hd : inB day 0 20000
  case false =>
    have HN : Hid (X = none) := Lib.hid (by rw [← HX.out]; exact relO_only hg HX2.out HID.out (relP_day (goodHs_mem hg (List.mem_of_getElem? HX2.out)) hd))
    go_wp2
    go_ret2
    rw [HN.out]
    exact ⟨_, rfl, Hld.OwnX.nil _ _ _ _, E4'⟩
  clear c2
  have HCC := Lib.hid (HCOPY.out w4 E4')
  go_wp2_with fail
  refine HCC.out.mono ?_
  rintro e w6 ⟨v6, rfl, o6, E6⟩
  have E6' := Ext.trans E4' E6
  obtain ⟨g, cap, hs, hbg⟩ := o6.addr (by omega)
  subst hs
  obtain ⟨hf, sv, _, hc⟩ := o6.cells HX2.out
  have d2 := hc 2 _ rfl
  have f2 := hf (k * 6 + 2)
  have HF := Lib.hid (Hld.OwnX.field (by decide) o6 HX2.out (j := 2) (r' := setUn r day) (u := .int .i64 day) (by decide) (fun _ => rfl) rfl)
  obtain ⟨w7, hw7⟩ : ∃ x, x = w6.setCell ⟨g, k * 6 + 2, none⟩ (.int .i64 day) := ⟨_, rfl⟩
  have E7 : Ext w w7 := by rw [hw7]; exact E6'.setCell (Nat.le_trans E4'.size hbg) _
  rw [← hw7] at HF
  have HA := Lib.hid (areHolds_ok (l.set k (setUn r day)) _ w7 HF.out.rd (by simpa using hl) (fun p hp => by
    rcases List.mem_or_eq_of_mem_set hp with h | h
    · exact HLL.out p h
    · rw [h]; exact HLL.out r (List.mem_of_getElem? HX2.out)))
  rw [goodHs_set hg HX2.out hd] at HA
  clear HCC o6 hc hf
  go_wp2_with fail
  rw [← hw7]
  clear hw7 d2 f2
  refine HA.out.mono ?_
  rintro e w8 ⟨rfl, E8⟩
  clear HA
  have E8' := Ext.trans E7 E8
  cases hb : inB day (r.fr + 1) 20000
  case false =>
    have HN : Hid (X = none) := Lib.hid (by rw [← HX.out]; exact relO_only hg HX2.out HID.out (by simp [relP, hb]))
    go_wp2
    go_ret2
    rw [HN.out]
    exact ⟨_, rfl, Hld.OwnX.nil _ _ _ _, E8'⟩
  have hun : r.un = -1 := by
    have := (okH_parts (goodHs_mem hg (List.mem_of_getElem? HX2.out))).2.1
    rcases (okH_parts (goodHs_mem hg (List.mem_of_getElem? HX2.out))).2.2.1 with h | h
    · exact h
    · omega
  have HR : Hid (X = some (l.set k (setUn r day))) := Lib.hid (by
    rw [← HX.out]
    refine relO_at hg HX2.out (by simp [relP, HID.out, hun, hb]) (fun j y hj hy => ?_)
    have : y.id ≠ id := fun he => by have := goodHs_ids hg hy HX2.out (by rw [he, HID.out]); omega
    simp [relP, this])
  have HO := Lib.hid ((HF.out.ext E8).mono E4'.size)
  clear hun HF
  go_wp2
  go_ret2
  rw [HR.out]
  exact ⟨_, rfl, HO.out, E8'⟩
end Go.Proofs.Ytkbhonafbecbfaa
