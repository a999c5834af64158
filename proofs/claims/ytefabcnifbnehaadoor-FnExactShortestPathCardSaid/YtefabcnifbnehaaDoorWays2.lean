/- What leads, waysTo and WaysTo compute; no condition beyond the lists, lengths and rooms that are named. -/
import Derived.Test.YtefabcnifbnehaaDoorWays
import Derived.Test.YtefabcnifbnehaaDoorAppK
namespace Go.Proofs.YtefabcnifbnehaaDoor
open Go.RowKit Go.Sort Go.Rd
theorem at_mem {l : List Fmt} {id day x : Int} (hid : 0 ≤ atF l id) (h : WayTo l id day x) : ∃ (j : Nat) (y : Fmt), atF l x = (j : Int) ∧ l[j]? = some y ∧ y.id = x := by
  obtain ⟨f, hf, rfl⟩ := wayTo_at hid h
  exact atF_mem (atF_of_mem hf)
set_option maxHeartbeats 1000000 in
theorem leads_ok (x y : Fmt) (day : Int) (sx sy : Value) (w : World) (hx : Fmt.At w (x, sx)) (hy : Fmt.At w (y, sy)) (hl : y.rd.length ≤ 1048576) :
    Calls Tryd.prog 70 #[.agg #[.int .i64 x.id, .string ⟨x.na.toArray⟩, .int .i64 x.un, sx], .agg #[.int .i64 y.id, .string ⟨y.na.toArray⟩, .int .i64 y.un, sy], .int .i64 day] w fun e w' => e = .returned (.bool (leadB day x.id y)) ∧ Ext w w' := by
  obtain ⟨ax, cx, hs⟩ := Reads.shape hx
  simp only at hs
  subst hs
  obtain ⟨ay, cy, hs⟩ := Reads.shape hy
  simp only at hs
  subst hs
  obtain ⟨wa, hwa⟩ : ∃ wa, wa = w.alloc (.cells #[.int .i64 x.id, .string ⟨x.na.toArray⟩, .int .i64 x.un, .slice ax x.rd.length cx] 60) := ⟨_, rfl⟩
  have za : wa.heap.size = w.heap.size + 1 := by rw [hwa]; simp
  obtain ⟨w2, hw2⟩ : ∃ w2, w2 = wa.alloc (.cells #[.int .i64 y.id, .string ⟨y.na.toArray⟩, .int .i64 y.un, .slice ay y.rd.length cy] 60) := ⟨_, rfl⟩
  have Ea2 : Ext wa w2 := by rw [hw2]; exact (Ext.refl _).alloc _
  have E2 : Ext w w2 := Ext.trans (by rw [hwa]; exact (Ext.refl _).alloc _) Ea2
  have k0 : w2.cell? ⟨w.heap.size, 0, none⟩ = some (.int .i64 x.id) := Ea2.cell (by rw [hwa]; simp)
  have m2 : w2.cell? ⟨w.heap.size + 1, 2, none⟩ = some (.int .i64 y.un) := by rw [hw2, ← za]; simp
  have m3 : w2.cell? ⟨w.heap.size + 1, 3, none⟩ = some (.slice ay y.rd.length cy) := by rw [hw2, ← za]; simp
  have HC := containsInt_ok y.rd x.id _ w2 (Reads.mono E2 hy) hl
  obtain ⟨c, hc⟩ : ∃ b, y.rd.contains x.id = b := ⟨_, rfl⟩
  have HB : Hid (leadB day x.id y = (c && decide (day ≤ y.un))) := Lib.hid (by rw [leadB, hc])
  rw [hc] at HC
  rw [HB.out]
  clear hc
  go_enter Tryd.func70, Tryd.ntmps70
  go_wp2_with fail
  rw [← hwa, ← hw2]
  clear hwa hw2 Ea2 za
  refine HC.mono ?_
  rintro e w3 ⟨rfl, rfl⟩
  cases c
  case false =>
    go_wp2
    go_ret
    exact ⟨rfl, E2⟩
  go_wp2
  go_ret
  exact ⟨rfl, E2⟩
set_option maxHeartbeats 4000000 in
theorem waysTo_ok (l : List Fmt) (id day : Int) (v : Value) (w : World) (hg : goodF l = true) (hid : 0 ≤ atF l id) (hv : Fmt.Rd w v l) (hl : l.length ≤ 1048576) (hll : ∀ p ∈ l, p.rd.length ≤ 1048576) :
    Calls Tryd.prog 48 #[v, .int .i64 id, .int .i64 day] w (RetOwn w 3 1 (waysL l id day).length ((waysL l id day).flatMap Go.Rd.encI)) := by
  have HLL := Lib.hid hll
  have HEQ := Lib.hid (fun S (h : WayQ l id day S) hd => wayQ_end hg hid h hd)
  have HLEN := Lib.hid (fun S (h : WayQ l id day S) => h.len hid)
  have HAT := Lib.hid (fun x (h : WayTo l id day x) => at_mem hid h)
  have hlpos : 0 < l.length := by obtain ⟨j, y, _, h, _⟩ := atF_mem hid; have := (List.getElem?_eq_some_iff.1 h).1; omega
  obtain ⟨N, hN⟩ : ∃ N, waysL l id day = N := ⟨_, rfl⟩
  rw [hN] at HEQ ⊢
  clear hN hll hid
  obtain ⟨a, cap, rfl⟩ := hv.shape
  obtain ⟨b, off, rfl⟩ := Fmt.Rd.addr hv hlpos
  go_enter Tryd.func48, Tryd.ntmps48
  go_wp2
  go_loopw [7, 8] (fun ids i wr => ∃ (S : List Int) (k : Nat), Hid (WayQ l id day S) ∧ k ≤ S.length ∧ i = .int .i64 k ∧ wr.ownsRow w.heap.size 3 1 ids S.length (S.flatMap Go.Rd.encI) ∧ Hid (DoneQ l day S k) ∧ Ext w wr) (fun _ i _ => l.length - (intOf i).toNat)
  case atStart =>
    refine ⟨[id], 0, Lib.hid (WayQ.start l id day), by simp, rfl, ?_, Lib.hid (fun j x h => by omega), (Ext.refl w).alloc _⟩
    exact ⟨rfl, .inr ⟨w.heap.size, 1, #[.int .i64 id], rfl, Nat.le_refl _, heap_alloc_new w _, Nat.le_refl _, by unfold maxLen; omega, rfl, rfl⟩⟩
  case round =>
    obtain ⟨wo, hwo⟩ : ∃ w', w' = wr := ⟨_, rfl⟩
    subst hwo
    obtain ⟨S, k, HS, hk, rfl, ho, HD, hE⟩ := hrel
    have hSl := HLEN.out S HS.out
    obtain ⟨ao, co, rfl⟩ := (Reads.of_owns ho).shape
    by_cases hlt : k < S.length
    · obtain ⟨bo, oo, rfl, hc⟩ := Reads.elems Go.Rd.encI_len (Reads.of_owns ho) (by omega)
      obtain ⟨x, hx⟩ := get_of_lt hlt
      have c0 := hc k _ hx 0 _ rfl
      simp only [Nat.add_zero, Nat.mul_one] at c0
      have HX := Lib.hid hx
      obtain ⟨j, f0, hj, hf0, hf0x⟩ := HAT.out x (HS.out.way x (List.mem_of_getElem? hx))
      have hjl := (List.getElem?_eq_some_iff.1 hf0).1
      have HF0 := Lib.hid hf0
      have HFX := Lib.hid hf0x
      have hf0l := HLL.out f0 (List.mem_of_getElem? hf0)
      obtain ⟨ca, cc, d0, d1, d2, d3, hat⟩ := Fmt.Rd.cells hv hf0
      have HJ := Lib.hid hj
      have n1 : (j : Int) < (l.length : Int) := by omega
      clear hc hx hf0 hj hf0x
      go_wp2_with fail
      refine (formatAt_ok l x _ _ (hv.mono hE) hl).mono ?_
      rw [HJ.out]
      rintro e w1 ⟨rfl, E1⟩
      have hE1 := Ext.trans hE E1
      have d0 := hE1.cell d0
      have d1 := hE1.cell d1
      have d2 := hE1.cell d2
      have d3 := hE1.cell d3
      obtain ⟨w2, hw2⟩ : ∃ w2, w2 = w1.alloc (.cells #[.int .i64 f0.id, .string ⟨f0.na.toArray⟩, .int .i64 f0.un, .slice ca f0.rd.length cc] 60) := ⟨_, rfl⟩
      have E12 : Ext w1 w2 := by rw [hw2]; exact (Ext.refl _).alloc _
      have hbx : Box w2 w1.heap.size 60 [.int .i64 f0.id, .string ⟨f0.na.toArray⟩, .int .i64 f0.un, .slice ca f0.rd.length cc] := Box.of_new hw2 rfl
      have Eo2 := Ext.trans E1 E12
      have hE2 := Ext.trans hE Eo2
      have ho2 := Eo2.owns ho
      go_upto_region 6 with fail
      rw [← hw2]
      clear hw2 c0 d0 d1 d2 d3 E12
      go_wp2
      go_loopw [7, 31] (fun ids i wr => ∃ (T : List Int) (m : Nat), Hid (WayQ l id day T) ∧ Hid (∃ t, T = S ++ t) ∧ m ≤ l.length ∧ i = .int .i64 m ∧ wr.ownsRow w.heap.size 3 1 ids T.length (T.flatMap Go.Rd.encI) ∧ Hid (∀ j f, j < m → l[j]? = some f → leadB day x f = true → f.id ∈ T) ∧ Box wr w1.heap.size 60 [.int .i64 f0.id, .string ⟨f0.na.toArray⟩, .int .i64 f0.un, .slice ca f0.rd.length cc] ∧ Ext w wr) (fun _ i _ => l.length - (intOf i).toNat)
      case atStart => exact ⟨S, 0, HS, Lib.hid ⟨[], by simp⟩, Nat.zero_le _, rfl, ho2, Lib.hid (fun j f h => by omega), hbx, hE2⟩
      case round =>
        obtain ⟨wi, hwi⟩ : ∃ w', w' = wr := ⟨_, rfl⟩
        subst hwi
        obtain ⟨T, m, HT, HP, hm, rfl, hoT, HL, hbx, hE3⟩ := hrel
        have hTl := HLEN.out T HT.out
        by_cases hltm : m < l.length
        · obtain ⟨f, hf⟩ := get_of_lt hltm
          obtain ⟨ca', cc', c0, c1, c2, c3, hatf⟩ := Fmt.Rd.cells (hv.mono hE3) hf
          have hfl := HLL.out f (List.mem_of_getElem? hf)
          have HF := Lib.hid hf
          obtain ⟨w4, hw4⟩ : ∃ w4, w4 = wi.alloc (.cells #[.int .i64 f.id, .string ⟨f.na.toArray⟩, .int .i64 f.un, .slice ca' f.rd.length cc'] 60) := ⟨_, rfl⟩
          have E34 : Ext wi w4 := by rw [hw4]; exact (Ext.refl _).alloc _
          have z0 : w4.cell? ⟨wi.heap.size, 0, none⟩ = some (.int .i64 f.id) := by rw [hw4]; simp
          have z1 : w4.cell? ⟨wi.heap.size, 1, none⟩ = some (.string ⟨f.na.toArray⟩) := by rw [hw4]; simp
          have z2 : w4.cell? ⟨wi.heap.size, 2, none⟩ = some (.int .i64 f.un) := by rw [hw4]; simp
          have z3 : w4.cell? ⟨wi.heap.size, 3, none⟩ = some (.slice ca' f.rd.length cc') := by rw [hw4]; simp
          have hbx4 := Box.ext E34 hbx
          have x0 := hbx4.cell 0 rfl
          have x1 := hbx4.cell 1 rfl
          have x2 := hbx4.cell 2 rfl
          have x3 := hbx4.cell 3 rfl
          have hE4 := Ext.trans hE3 E34
          have ho4 := E34.owns hoT
          obtain ⟨aT, cT, rfl⟩ := (Reads.of_owns ho4).shape
          have HCL := leads_ok f0 f day _ _ w4 (hat.mono hE4) (hatf.mono E34) hfl
          have HEB := Lib.hid (show leadB day f0.id f = leadB day x f by rw [HFX.out])
          clear hf
          go_upto_region 9 with fail
          rw [← hw4]
          clear hw4 c0 c1 c2 c3
          go_wp2_with fail
          refine HCL.mono ?_
          rw [HEB.out]
          rintro e w5 ⟨rfl, E5⟩
          have hbx5 := Box.ext E5 hbx4
          have z0 := E5.cell z0
          have ho5 := E5.owns ho4
          have hE5 := Ext.trans hE4 E5
          clear HCL x0 x1 x2 x3 z1 z2 z3
          cases hb : leadB day x f
          case false =>
            have HL2 : Hid (∀ j f, j < m + 1 → l[j]? = some f → leadB day x f = true → f.id ∈ T) := Lib.hid fun j g hj hg h => by
              by_cases hjm : j < m
              · exact HL.out j g hjm hg h
              · obtain rfl : j = m := by omega
                have := hg.symm.trans HF.out
                simp only [Option.some.injEq] at this
                subst this
                rw [hb] at h; cases h
            clear hb
            go_wp2
            go_roundw
            case rel => exact ⟨T, m + 1, HT, HP, by omega, by go_num, ho5, HL2, hbx5, hE5⟩
            case measure => simp [intOf]; omega
          have HB := Lib.hid hb
          clear hb
          go_wp2_with fail
          refine (containsInt_ok T f.id _ _ (Reads.of_owns ho5) (by omega)).mono ?_
          rintro e w' ⟨rfl, rfl⟩
          cases hc : T.contains f.id
          case true =>
            have HL2 : Hid (∀ j f, j < m + 1 → l[j]? = some f → leadB day x f = true → f.id ∈ T) := Lib.hid fun j g hj hg h => by
              by_cases hjm : j < m
              · exact HL.out j g hjm hg h
              · obtain rfl : j = m := by omega
                have := hg.symm.trans HF.out
                simp only [Option.some.injEq] at this
                subst this
                simpa using hc
            clear hc
            go_wp2
            go_roundw
            case rel => exact ⟨T, m + 1, HT, HP, by omega, by go_num, ho5, HL2, hbx5, hE5⟩
            case measure => simp [intOf]; omega
          have HCN : Hid (f.id ∉ T) := Lib.hid (by simpa using hc)
          clear hc
          have HXT : Hid (x ∈ T) := Lib.hid (by
            obtain ⟨t, ht⟩ := HP.out
            rw [ht]
            exact List.mem_append_left _ (List.mem_of_getElem? HX.out))
          have HT2 := Lib.hid (HT.out.put (List.mem_of_getElem? HF.out) HB.out HXT.out HCN.out)
          have HP2 : Hid (∃ t, T ++ [f.id] = S ++ t) := Lib.hid (by
            obtain ⟨t, ht⟩ := HP.out
            exact ⟨t ++ [f.id], by rw [ht, List.append_assoc]⟩)
          have HL2 : Hid (∀ j g, j < m + 1 → l[j]? = some g → leadB day x g = true → g.id ∈ T ++ [f.id]) := Lib.hid fun j g hj hg h => by
            by_cases hjm : j < m
            · exact List.mem_append_left _ (HL.out j g hjm hg h)
            · obtain rfl : j = m := by omega
              have := hg.symm.trans HF.out
              simp only [Option.some.injEq] at this
              subst this
              simp
          go_wp2_with (at_builtin; refine wpl_append1K w _ rfl _ _ 30 rfl 3 _ 1 8 Tryd.underlying30 Tryd.infoInt rfl (by decide) (by decide) _ _ _ hE5 ho5 ?c1 [.int .i64 f.id] rfl rfl rfl (Go.Rd.encI_one _) ?_)
          case c1 => omega
          intro v6 w6 o6 E6 G6
          have hbx6 := Box.grown G6 (ho5.alloc _) (Box.ext ((Ext.refl _).alloc _) hbx5) (by decide)
          go_wp2
          go_roundw
          case rel => exact ⟨T ++ [f.id], m + 1, HT2, HP2, by omega, by go_num, by simpa [Go.Rd.encI] using o6, HL2, hbx6, E6⟩
          case measure => simp [intOf]; omega
        · have HD2 : Hid (DoneQ l day T (k + 1)) := Lib.hid (by
            obtain ⟨t, ht⟩ := HP.out
            intro j y hj hy f hf hb
            by_cases hjk : j < k
            · have hyS : S[j]? = some y := by rw [ht, List.getElem?_append_left (by omega)] at hy; exact hy
              have := HD.out j y hjk hyS f hf hb
              rw [ht]; exact List.mem_append_left _ this
            · obtain rfl : j = k := by omega
              have hyx : y = x := by
                rw [ht, List.getElem?_append_left (by omega)] at hy
                have := hy.symm.trans HX.out
                simpa using this
              subst hyx
              obtain ⟨i, hi⟩ := List.mem_iff_getElem?.1 hf
              exact HL.out i f (by have := (List.getElem?_eq_some_iff.1 hi).1; omega) hi hb)
          have hST : S.length ≤ T.length := by obtain ⟨t, ht⟩ := HP.out; rw [ht]; simp
          go_wp2
          go_roundw
          case rel => exact ⟨T, k + 1, HT, by omega, by go_num, hoT, HD2, hE3⟩
          case measure => simp [intOf]; omega
    · have HF : Hid (sortL S = N) := Lib.hid (HEQ.out S HS.out (by rw [show S.length = k by omega]; exact HD.out))
      go_wp2_with fail
      refine (sortInts_ok w.heap.size S _ _ ho (by omega)).mono ?_
      rintro e w1 ⟨rfl, o1, B1⟩
      rw [HF.out] at o1
      go_wp2
      go_ret
      exact ⟨_, rfl, o1, Below.trans hE B1⟩
end Go.Proofs.YtefabcnifbnehaaDoor
