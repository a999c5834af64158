/- What the last readable days of formats are, the program's and the reference's; no condition beyond the lengths, rooms and places that are named. -/
import Derived.Test.YtefabcnifbnehaaDoorFmtL3
import Derived.Test.YtefabcnifbnehaaDoorFmtOps
namespace Go.Proofs.YtefabcnifbnehaaDoor
open Go.RowKit Go.Sort Go.Rd
set_option maxHeartbeats 400000 in
theorem l1Most_ok (a b : Int) (w : World) : Calls Tryd.prog 85 #[.int .i64 a, .int .i64 b] w fun e w' => e = .returned (.int .i64 (max a b)) ∧ w = w' := by
  by_cases h : b < a
  · have HR := Lib.hid (show max a b = a by omega)
    go_enter Tryd.func85, Tryd.ntmps85
    go_wp2
    go_ret
    exact ⟨ret_int HR.out.symm, rfl⟩
  · have HR := Lib.hid (show max a b = b by omega)
    go_enter Tryd.func85, Tryd.ntmps85
    go_wp2
    go_ret
    exact ⟨ret_int HR.out.symm, rfl⟩
set_option maxHeartbeats 2000000 in
theorem l7Last_ok (l : List Fmt) (id : Int) (v : Value) (w : World) (h0 : 0 ≤ atF l id) (hv : Fmt.Rd w v l) (hl : l.length ≤ 1048576) (hll : ∀ p ∈ l, p.rd.length ≤ 1048576) :
    Calls Tryd.prog 61 #[v, .int .i64 id] w fun e w' => e = .returned (.int .i64 (lastR l id)) ∧ Ext w w' := by
  have HLL := Lib.hid hll
  obtain ⟨j, y, hj, hy, _⟩ := atF_mem h0
  have hjl := (List.getElem?_eq_some_iff.1 hy).1
  obtain ⟨a, cap, rfl⟩ := hv.shape
  obtain ⟨b, off, rfl⟩ := Fmt.Rd.addr hv (by omega)
  have HU := Lib.hid (unF_at hj hy)
  have HC := l7Find_ok l id _ w hv hl
  rw [hj] at HC
  have HY := Lib.hid hy
  clear hll h0 hj hy
  go_enter Tryd.func61, Tryd.ntmps61
  go_wp2_with fail
  refine HC.mono ?_
  rintro e w1 ⟨rfl, E1⟩
  obtain ⟨ca, cc, c0, c1, c2, c3, hat⟩ := Fmt.Rd.cells (hv.mono E1) HY.out
  clear HC hat
  have n1 : (j : Int) < (l.length : Int) := by omega
  go_wp2

  go_loopw [5, 6] (fun acc i wr => ∃ k : Nat, k ≤ l.length ∧ i = .int .i64 k ∧ acc = .int .i64 (lastK l id k) ∧ Ext w wr) (fun _ i _ => l.length - (intOf i).toNat)
  case atStart => exact ⟨0, Nat.zero_le _, rfl, by rw [lastK_zero, HU.out], E1⟩
  case round =>
    obtain ⟨k, hk, rfl, rfl, hE⟩ := hrel
    by_cases hlt : k < l.length
    · clear c0 c1 c2 c3 n1
      obtain ⟨x, hx⟩ := get_of_lt hlt
      obtain ⟨ca, cc, c0, c1, c2, c3, hat⟩ := Fmt.Rd.cells (hv.mono hE) hx
      have hxl := HLL.out x (List.mem_of_getElem? hx)
      have HX := Lib.hid hx
      obtain ⟨A, hA⟩ : ∃ A, lastK l id k = A := ⟨_, rfl⟩
      have HA := Lib.hid hA
      rw [hA]
      clear hx hA
      go_wp2_with fail
      refine (l1Has_ok x.rd id _ _ hat hxl).mono ?_
      rintro e w' ⟨rfl, rfl⟩
      cases hc : x.rd.contains id
      case false =>
        have HN := Lib.hid ((lastK_no HX.out hc).trans HA.out)
        clear hc
        go_wp2
        go_roundw
        case rel => exact ⟨k + 1, by omega, by go_num, by rw [HN.out], hE⟩
        case measure => simp [intOf]; omega
      have HN := Lib.hid ((lastK_yes HX.out hc).trans (by rw [HA.out]))
      clear hc
      go_wp2_with fail
      refine (l1Most_ok A x.un _).mono ?_
      rintro e w' ⟨rfl, rfl⟩
      go_wp2
      go_roundw
      case rel => exact ⟨k + 1, by omega, by go_num, by rw [HN.out], hE⟩
      case measure => simp [intOf]; omega
    · have HE := Lib.hid (lastK_end (id := id) (show l.length ≤ k by omega))
      rw [HE.out]
      go_wp2
      go_ret
      exact ⟨rfl, hE⟩
set_option maxHeartbeats 2000000 in
theorem lastReadable_ok (l : List Fmt) (id : Int) (v : Value) (w : World) (h0 : 0 ≤ atF l id) (hv : Fmt.Rd w v l) (hl : l.length ≤ 1048576) (hll : ∀ p ∈ l, p.rd.length ≤ 1048576) :
    Calls Tryd.prog 62 #[v, .int .i64 id] w fun e w' => e = .returned (.int .i64 (lastR l id)) ∧ Ext w w' := by
  have HLL := Lib.hid hll
  obtain ⟨j, y, hj, hy, _⟩ := atF_mem h0
  have hjl := (List.getElem?_eq_some_iff.1 hy).1
  obtain ⟨a, cap, rfl⟩ := hv.shape
  obtain ⟨b, off, rfl⟩ := Fmt.Rd.addr hv (by omega)
  have HU := Lib.hid (unF_at hj hy)
  have HC := formatAt_ok l id _ w hv hl
  rw [hj] at HC
  have HY := Lib.hid hy
  clear hll h0 hj hy
  go_enter Tryd.func62, Tryd.ntmps62
  go_wp2_with fail
  refine HC.mono ?_
  rintro e w1 ⟨rfl, E1⟩
  obtain ⟨ca, cc, c0, c1, c2, c3, hat⟩ := Fmt.Rd.cells (hv.mono E1) HY.out
  clear HC hat
  have n1 : (j : Int) < (l.length : Int) := by omega
  go_wp2

  go_loopw [5, 17] (fun acc i wr => ∃ k : Nat, k ≤ l.length ∧ i = .int .i64 k ∧ acc = .int .i64 (lastK l id k) ∧ Ext w wr) (fun _ i _ => l.length - (intOf i).toNat)
  case atStart => exact ⟨0, Nat.zero_le _, rfl, by rw [lastK_zero, HU.out], E1⟩
  case round =>
    obtain ⟨k, hk, rfl, rfl, hE⟩ := hrel
    by_cases hlt : k < l.length
    · clear c0 c1 c2 c3 n1
      obtain ⟨x, hx⟩ := get_of_lt hlt
      obtain ⟨ca, cc, c0, c1, c2, c3, hat⟩ := Fmt.Rd.cells (hv.mono hE) hx
      have hxl := HLL.out x (List.mem_of_getElem? hx)
      have HX := Lib.hid hx
      obtain ⟨A, hA⟩ : ∃ A, lastK l id k = A := ⟨_, rfl⟩
      have HA := Lib.hid hA
      rw [hA]
      clear hx hA
      obtain ⟨wb, hwb⟩ : ∃ wb, wb = wr.alloc (.cells #[.int .i64 x.id, .string ⟨x.na.toArray⟩, .int .i64 x.un, .slice ca x.rd.length cc] 60) := ⟨_, rfl⟩
      have hRb : Ext wr wb := by rw [hwb]; exact (Ext.refl _).alloc _
      have x2 : wb.cell? ⟨wr.heap.size, 2, none⟩ = some (.int .i64 x.un) := by rw [hwb]; simp
      have hEb := Ext.trans hE hRb
      go_wp2_with fail
      rw [← hwb]
      clear hwb c0 c1 c2 c3
      refine (containsInt_ok x.rd id _ _ (hat.mono hRb) hxl).mono ?_
      rintro e w' ⟨rfl, rfl⟩
      cases hc : x.rd.contains id
      case false =>
        have HN := Lib.hid ((lastK_no HX.out hc).trans HA.out)
        clear hc
        go_wp2
        go_roundw
        case rel => exact ⟨k + 1, by omega, by go_num, by rw [HN.out], hEb⟩
        case measure => simp [intOf]; omega
      have HN := Lib.hid ((lastK_yes HX.out hc).trans (by rw [HA.out]))
      clear hc
      go_wp2
      go_roundw
      case rel => exact ⟨k + 1, by omega, by go_num, by first | rw [HN.out] | (rw [HN.out]; go_num), hEb⟩
      case measure => simp [intOf]; omega
    · have HE := Lib.hid (lastK_end (id := id) (show l.length ≤ k by omega))
      rw [HE.out]
      go_wp2
      go_ret
      exact ⟨rfl, hE⟩
set_option maxHeartbeats 1000000 in
theorem isOnDay_ok (l : List Fmt) (id day : Int) (v : Value) (w : World) (hv : Fmt.Rd w v l) (hcap : Room v) (hl : l.length ≤ 1048576) (hll : ∀ p ∈ l, p.rd.length ≤ 1048576) (hnl : ∀ p ∈ l, p.na.length ≤ maxLen) :
    Calls Tryd.prog 47 #[v, .int .i64 id, .int .i64 day] w fun e w' => e = .returned (.bool (waysOk l id day)) ∧ Ext w w' := by
  obtain ⟨res, hres⟩ : ∃ b, waysOk l id day = b := ⟨_, rfl⟩
  rw [hres]
  have HR := Lib.hid hres
  clear hres
  go_enter Tryd.func47, Tryd.ntmps47
  go_wp2_with fail
  refine (areFormats_ok l _ _ hv hcap hl hll hnl).mono ?_
  rintro e w1 ⟨rfl, E1⟩
  cases t1 : goodF l
  case false =>
    have HF : Hid (res = false) := Lib.hid (by rw [← HR.out, waysOk, t1]; rfl)
    go_wp2
    go_ret
    exact ⟨ret_bool HF.out.symm, E1⟩
  go_wp2_with fail
  refine (formatAt_ok l id _ _ (hv.mono E1) hl).mono ?_
  rintro e w2 ⟨rfl, E2⟩
  have E2' := Ext.trans E1 E2
  obtain ⟨z, hz⟩ : ∃ z, atF l id = z := ⟨_, rfl⟩
  have HZ := Lib.hid hz
  rw [hz]
  clear hz
  by_cases hz0 : 0 ≤ z
  case neg =>
    have HF : Hid (res = false) := Lib.hid (by rw [← HR.out, waysOk, t1, HZ.out, decide_eq_false hz0]; rfl)
    go_wp2
    go_ret
    exact ⟨ret_bool HF.out.symm, E2'⟩
  have HF : Hid (res = inB day 0 20000) := Lib.hid (by rw [← HR.out, waysOk, t1, HZ.out, decide_eq_true hz0]; rfl)
  go_wp2_with fail
  refine (isDay_ok day _).mono ?_
  rintro e w' ⟨rfl, rfl⟩
  go_wp2
  go_ret
  exact ⟨ret_bool HF.out.symm, E2'⟩
set_option maxHeartbeats 1000000 in
theorem specLastReadable_ok (l : List Fmt) (id : Int) (v : Value) (w : World) (hv : Fmt.Rd w v l) (hl : l.length ≤ 1048576) (hll : ∀ p ∈ l, p.rd.length ≤ 1048576) (hnl : ∀ p ∈ l, p.na.length ≤ maxLen) :
    Calls Tryd.prog 26 #[v, .int .i64 id] w fun e w' => e = .returned (.tuple #[.int .i64 (lastD l id), .bool (lastOk l id)]) ∧ Ext w w' := by
  obtain ⟨ok, hok⟩ : ∃ b, lastOk l id = b := ⟨_, rfl⟩
  have HR := Lib.hid hok
  have HY := Lib.hid (fun h => lastD_yes (l := l) (id := id) (hok.trans h))
  have HN := Lib.hid (fun h => lastD_no (l := l) (id := id) (hok.trans h))
  obtain ⟨d, hd⟩ : ∃ z, lastD l id = z := ⟨_, rfl⟩
  rw [hd] at HY HN
  rw [hok, hd]
  clear hok hd
  go_enter Tryd.func26, Tryd.ntmps26
  go_wp2_with fail
  refine (l7Good_ok l _ _ hv hl hll hnl).mono ?_
  rintro e w1 ⟨rfl, E1⟩
  cases t1 : goodF l
  case false =>
    obtain rfl : ok = false := by rw [← HR.out, lastOk, t1]; rfl
    obtain rfl := HN.out rfl
    go_wp2
    go_ret2
    exact ⟨rfl, E1⟩
  go_wp2_with fail
  refine (l7Find_ok l id _ _ (hv.mono E1) hl).mono ?_
  rintro e w2 ⟨rfl, E2⟩
  have E2' := Ext.trans E1 E2
  obtain ⟨z, hz⟩ : ∃ z, atF l id = z := ⟨_, rfl⟩
  have HZ := Lib.hid hz
  rw [hz]
  clear hz
  by_cases hz0 : z < 0
  case pos =>
    obtain rfl : ok = false := by rw [← HR.out, lastOk, t1, HZ.out, decide_eq_false (by omega)]; rfl
    obtain rfl := HN.out rfl
    go_wp2
    go_ret2
    exact ⟨rfl, E2'⟩
  obtain rfl : ok = true := by rw [← HR.out, lastOk, t1, HZ.out, decide_eq_true (by omega)]; rfl
  obtain rfl := HY.out rfl
  go_wp2_with fail
  refine (l7Last_ok l id _ _ (by have := HZ.out; omega) (hv.mono E2') hl hll).mono ?_
  rintro e w3 ⟨rfl, E3⟩
  go_wp2
  go_ret2
  exact ⟨rfl, Ext.trans E2' E3⟩
set_option maxHeartbeats 1000000 in
theorem lastReadableTop_ok (l : List Fmt) (id : Int) (v : Value) (w : World) (hv : Fmt.Rd w v l) (hcap : Room v) (hl : l.length ≤ 1048576) (hll : ∀ p ∈ l, p.rd.length ≤ 1048576) (hnl : ∀ p ∈ l, p.na.length ≤ maxLen) :
    Calls Tryd.prog 27 #[v, .int .i64 id] w fun e w' => e = .returned (.tuple #[.int .i64 (lastD l id), .bool (lastOk l id)]) ∧ Ext w w' := by
  obtain ⟨ok, hok⟩ : ∃ b, lastOk l id = b := ⟨_, rfl⟩
  have HR := Lib.hid hok
  have HY := Lib.hid (fun h => lastD_yes (l := l) (id := id) (hok.trans h))
  have HN := Lib.hid (fun h => lastD_no (l := l) (id := id) (hok.trans h))
  obtain ⟨d, hd⟩ : ∃ z, lastD l id = z := ⟨_, rfl⟩
  rw [hd] at HY HN
  rw [hok, hd]
  clear hok hd
  go_enter Tryd.func27, Tryd.ntmps27
  go_wp2_with fail
  refine (areFormats_ok l _ _ hv hcap hl hll hnl).mono ?_
  rintro e w1 ⟨rfl, E1⟩
  cases t1 : goodF l
  case false =>
    obtain rfl : ok = false := by rw [← HR.out, lastOk, t1]; rfl
    obtain rfl := HN.out rfl
    go_wp2
    go_ret2
    exact ⟨rfl, E1⟩
  go_wp2_with fail
  refine (formatAt_ok l id _ _ (hv.mono E1) hl).mono ?_
  rintro e w2 ⟨rfl, E2⟩
  have E2' := Ext.trans E1 E2
  obtain ⟨z, hz⟩ : ∃ z, atF l id = z := ⟨_, rfl⟩
  have HZ := Lib.hid hz
  rw [hz]
  clear hz
  by_cases hz0 : z < 0
  case pos =>
    obtain rfl : ok = false := by rw [← HR.out, lastOk, t1, HZ.out, decide_eq_false (by omega)]; rfl
    obtain rfl := HN.out rfl
    go_wp2
    go_ret2
    exact ⟨rfl, E2'⟩
  obtain rfl : ok = true := by rw [← HR.out, lastOk, t1, HZ.out, decide_eq_true (by omega)]; rfl
  obtain rfl := HY.out rfl
  go_wp2_with fail
  refine (lastReadable_ok l id _ _ (by have := HZ.out; omega) (hv.mono E2') hl hll).mono ?_
  rintro e w3 ⟨rfl, E3⟩
  go_wp2
  go_ret2
  exact ⟨rfl, Ext.trans E2' E3⟩
set_option maxHeartbeats 1000000 in
theorem specIsReadable_ok (l : List Fmt) (id day : Int) (v : Value) (w : World) (hv : Fmt.Rd w v l) (hl : l.length ≤ 1048576) (hll : ∀ p ∈ l, p.rd.length ≤ 1048576) (hnl : ∀ p ∈ l, p.na.length ≤ maxLen) :
    Calls Tryd.prog 28 #[v, .int .i64 id, .int .i64 day] w fun e w' => e = .returned (.tuple #[.bool (readB l id day), .bool (waysOk l id day)]) ∧ Ext w w' := by
  obtain ⟨ok, hok⟩ : ∃ b, waysOk l id day = b := ⟨_, rfl⟩
  have HR := Lib.hid hok
  have HB : Hid (readB l id day = (ok && decide (day ≤ lastR l id))) := Lib.hid (by rw [readB, hok])
  obtain ⟨d, hd⟩ : ∃ z, readB l id day = z := ⟨_, rfl⟩
  rw [hd] at HB
  rw [hok, hd]
  clear hok hd
  go_enter Tryd.func28, Tryd.ntmps28
  go_wp2_with fail
  refine (l7Good_ok l _ _ hv hl hll hnl).mono ?_
  rintro e w1 ⟨rfl, E1⟩
  cases t1 : goodF l
  case false =>
    obtain rfl : ok = false := by rw [← HR.out, waysOk, t1]; rfl
    obtain rfl : d = false := HB.out
    go_wp2
    go_ret2
    exact ⟨rfl, E1⟩
  go_wp2_with fail
  refine (l7Find_ok l id _ _ (hv.mono E1) hl).mono ?_
  rintro e w2 ⟨rfl, E2⟩
  have E2' := Ext.trans E1 E2
  obtain ⟨z, hz⟩ : ∃ z, atF l id = z := ⟨_, rfl⟩
  have HZ := Lib.hid hz
  rw [hz]
  clear hz
  by_cases hz0 : z < 0
  case pos =>
    obtain rfl : ok = false := by rw [← HR.out, waysOk, t1, HZ.out, decide_eq_false (by omega)]; rfl
    obtain rfl : d = false := HB.out
    go_wp2
    go_ret2
    exact ⟨rfl, E2'⟩
  go_wp2_with fail
  refine (l2Day_ok day _).mono ?_
  rintro e w' ⟨rfl, rfl⟩
  cases t2 : inB day 0 20000
  case false =>
    obtain rfl : ok = false := by rw [← HR.out, waysOk, t1, HZ.out, decide_eq_true (by omega), t2]; rfl
    obtain rfl : d = false := HB.out
    go_wp2
    go_ret2
    exact ⟨rfl, E2'⟩
  obtain rfl : ok = true := by rw [← HR.out, waysOk, t1, HZ.out, decide_eq_true (by omega), t2]; rfl
  obtain rfl : d = decide (day ≤ lastR l id) := HB.out
  go_wp2_with fail
  refine (l7Last_ok l id _ _ (by have := HZ.out; omega) (hv.mono E2') hl hll).mono ?_
  rintro e w3 ⟨rfl, E3⟩
  go_wp2
  go_ret2
  exact ⟨rfl, Ext.trans E2' E3⟩
set_option maxHeartbeats 1000000 in
theorem isReadable_ok (l : List Fmt) (id day : Int) (v : Value) (w : World) (hv : Fmt.Rd w v l) (hcap : Room v) (hl : l.length ≤ 1048576) (hll : ∀ p ∈ l, p.rd.length ≤ 1048576) (hnl : ∀ p ∈ l, p.na.length ≤ maxLen) :
    Calls Tryd.prog 29 #[v, .int .i64 id, .int .i64 day] w fun e w' => e = .returned (.tuple #[.bool (readB l id day), .bool (waysOk l id day)]) ∧ Ext w w' := by
  obtain ⟨ok, hok⟩ : ∃ b, waysOk l id day = b := ⟨_, rfl⟩
  have HR := Lib.hid hok
  have HB : Hid (readB l id day = (ok && decide (day ≤ lastR l id))) := Lib.hid (by rw [readB, hok])
  obtain ⟨d, hd⟩ : ∃ z, readB l id day = z := ⟨_, rfl⟩
  rw [hd] at HB
  rw [hok, hd]
  clear hd
  go_enter Tryd.func29, Tryd.ntmps29
  go_wp2_with fail
  refine (isOnDay_ok l id day _ _ hv hcap hl hll hnl).mono ?_
  rintro e w1 ⟨rfl, E1⟩
  rw [hok]
  clear hok
  cases ok
  case false =>
    obtain rfl : d = false := HB.out
    go_wp2
    go_ret2
    exact ⟨rfl, E1⟩
  obtain rfl : d = decide (day ≤ lastR l id) := HB.out
  have h0 : 0 ≤ atF l id := by
    have := HR.out
    simp only [waysOk, Bool.and_eq_true, decide_eq_true_eq] at this
    exact this.1.2
  go_wp2_with fail
  refine (lastReadable_ok l id _ _ h0 (hv.mono E1) hl hll).mono ?_
  rintro e w3 ⟨rfl, E3⟩
  clear h0
  go_wp2
  go_ret2
  exact ⟨rfl, Ext.trans E1 E3⟩
end Go.Proofs.YtefabcnifbnehaaDoor
