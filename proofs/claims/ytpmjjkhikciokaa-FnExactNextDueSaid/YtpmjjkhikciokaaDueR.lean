/- What DueRecords, NextDue and NotScheduled compute; no condition beyond the lengths that are named. -/
import Derived.Test.YtpmjjkhikciokaaDecide
import Derived.Test.YtpmjjkhikciokaaDueRData
import Derived.Test.YtpmjjkhikciokaaRecsL
import Derived.Test.YtpmjjkhikciokaaNestEl
import Derived.Test.YtpmjjkhikciokaaAppR
namespace Go.Proofs.Ytpmjjkhikciokaa
open Go.RowKit Go.Sort Go.Rd
set_option maxHeartbeats 4000000 in
theorem specNotScheduled_ok (l : List Rec) (sch : List Rul) (v vs : Value) (w : World) (hv : Rec.Rd w v l) (hvs : Reads w 4 vs sch.length (sch.flatMap Rul.enc)) (hl : l.length ≤ 1048576) (hll : ∀ r ∈ l, r.evs.length ≤ 1048576) (hls : sch.length ≤ 1048576) :
    Calls Try.prog 35 #[v, vs] w (RetReadB w 1 (notL l sch).length ((notL l sch).flatMap encI) (allOk l sch)) := by
  have e0 : Ext w (w.alloc (.cells #[] 3)) := (Ext.refl w).alloc _
  obtain ⟨a, cap, rfl⟩ := hv.shape
  have HL := Lib.hid hll
  obtain ⟨N, hN⟩ : ∃ N, notL l sch = N := ⟨_, rfl⟩
  have HY := Lib.hid (fun h => hN.symm.trans (notL_yes (l := l) (sch := sch) h))
  have HF := Lib.hid (fun h => hN.symm.trans (notL_no (l := l) (sch := sch) h))
  rw [hN]
  obtain ⟨ok, hok⟩ : ∃ ok, allOk l sch = ok := ⟨_, rfl⟩
  have HOK := Lib.hid hok
  rw [hok] at HY HF ⊢
  clear hN hok hll
  go_enter Try.func35, Try.ntmps35
  go_wp2_with fail
  refine (l2Records_ok l _ _ (hv.mono e0) hl HL.out).mono ?_
  rintro e w1 ⟨rfl, E1⟩
  have E1' := Ext.trans e0 E1
  cases h1 : goodRs l
  case false =>
    obtain rfl : ok = false := by rw [← HOK.out, allOk, h1]; rfl
    obtain rfl := HF.out rfl
    go_wp2
    go_ret2
    exact ⟨_, rfl, (OutR.empty w w 3 1 _).reads.mono E1', E1'⟩
  go_wp2_with fail
  refine (l4Good_ok sch _ _ (hvs.mono E1') hls).mono ?_
  rintro e w2 ⟨rfl, E2⟩
  have E2' := Ext.trans E1' E2
  cases h2 : goodR sch
  case false =>
    obtain rfl : ok = false := by rw [← HOK.out, allOk, h1, h2]; rfl
    obtain rfl := HF.out rfl
    go_wp2
    go_ret2
    exact ⟨_, rfl, (OutR.empty w w 3 1 _).reads.mono E2', E2'⟩
  obtain rfl : ok = true := by rw [← HOK.out, allOk, h1, h2]; rfl
  have HN := Lib.hid (HY.out rfl)
  clear HY HF HOK
  go_wp2
  go_loopw [6, 7] (fun out i wr => ∃ k : Nat, k ≤ l.length ∧ i = .int .i64 k ∧ OutR w2 wr 3 1 out (fmK (notP sch) (·.id) l k).length ((fmK (notP sch) (·.id) l k).flatMap encI) ∧ Ext w2 wr) (fun _ i _ => l.length - (intOf i).toNat)
  case atStart => exact ⟨0, Nat.zero_le _, rfl, by rw [fmK_zero]; exact OutR.empty _ _ _ _ _, Ext.refl _⟩
  case round =>
    obtain ⟨k, hk, rfl, ho, hE⟩ := hrel
    by_cases hlt : k < l.length
    · have hE' := Ext.trans E2' hE
      obtain ⟨r, hx⟩ := get_of_lt hlt
      obtain ⟨b, off, rfl⟩ := Rec.Rd.addr (hv.mono hE') (by omega)
      obtain ⟨ca, cc, c0, c1, c2, c3, hat⟩ := Rec.Rd.cells (hv.mono hE') hx
      have HX := Lib.hid hx
      have hflen := fmK_len (notP sch) (·.id) l k
      clear hx
      go_wp2_with fail
      refine (l4For_ok sch r.se _ _ (hvs.mono hE') hls).mono ?_
      rintro e w3 ⟨v3, rfl, o3, E3⟩
      obtain ⟨a3, cap3, rfl⟩ := (Reads.of_owns o3).shape
      have c0 := E3.cell c0
      have hE3 := Ext.trans hE E3
      have ho3 := OutR.ext E3 ho
      cases hp : notP sch r
      case false =>
        have HK := Lib.hid (fmK_no (f := fun x : Rec => x.id) HX.out hp)
        have hz : (((forR sch r.se).length : Int) == 0) = false := beq_eq_false_iff_ne.2 (by have := of_decide_eq_false hp; omega)
        go_wp2
        go_roundw
        case rel => exact ⟨k + 1, by omega, by go_num, by rw [HK.out]; exact ho3, hE3⟩
        case measure => simp [intOf]; omega
      have HK := Lib.hid (fmK_yes (f := fun x : Rec => x.id) HX.out hp)
      have hz : (((forR sch r.se).length : Int) == 0) = true := beq_iff_eq.2 (by have := of_decide_eq_true hp; omega)
      go_wp2_with (at_builtin; refine wpl_appendR w2 _ rfl _ _ 23 rfl 3 _ 1 8 Try.underlying23 Try.infoInt rfl (by decide) (by decide) _ _ _ hE3 ho3 ?c1 [.int .i64 (r.id)] rfl rfl rfl (encI_one _) ?_)
      case c1 => omega
      intro v' w5 o5 E5 _
      go_wp2
      go_roundw
      case rel => exact ⟨k + 1, by omega, by go_num, by rw [HK.out]; simpa [encI] using o5, E5⟩
      case measure => simp [intOf]; omega
    · have HF := Lib.hid ((fmK_all (notP sch) (·.id) (show l.length ≤ k by omega)).trans HN.out.symm)
      rw [HF.out] at ho
      go_wp2
      go_ret2
      exact ⟨_, rfl, ho.reads, Ext.trans E2' hE⟩
set_option maxHeartbeats 4000000 in
theorem notScheduled_ok (l : List Rec) (sch : List Rul) (v vs : Value) (w : World) (hv : Rec.Rd w v l) (hvs : Reads w 4 vs sch.length (sch.flatMap Rul.enc)) (hl : l.length ≤ 1048576) (hll : ∀ r ∈ l, r.evs.length ≤ 1048576) (hls : sch.length ≤ 1048576) :
    Calls Try.prog 37 #[v, vs] w (RetOwnB w 3 1 (notL l sch).length ((notL l sch).flatMap encI) (allOk l sch)) := by
  obtain ⟨a, cap, rfl⟩ := hv.shape
  have HL := Lib.hid hll
  obtain ⟨N, hN⟩ : ∃ N, notL l sch = N := ⟨_, rfl⟩
  have HY := Lib.hid (fun h => hN.symm.trans (notL_yes (l := l) (sch := sch) h))
  have HF := Lib.hid (fun h => hN.symm.trans (notL_no (l := l) (sch := sch) h))
  rw [hN]
  obtain ⟨ok, hok⟩ : ∃ ok, allOk l sch = ok := ⟨_, rfl⟩
  have HOK := Lib.hid hok
  rw [hok] at HY HF ⊢
  clear hN hll hok
  go_enter Try.func37, Try.ntmps37
  go_wp2_with fail
  refine (areAll_ok l _ sch _ _ hv hl HL.out hvs hls).mono ?_
  rintro e w2 ⟨rfl, E2⟩
  rw [HOK.out]
  cases ok
  case false =>
    obtain rfl := HF.out rfl
    go_wp2
    go_ret2
    exact ⟨_, rfl, World.ownsRow_nil _ _ _ _, E2⟩
  have HN := Lib.hid (HY.out rfl)
  clear HY HF
  go_wp2
  go_loopw [6, 8, 15] (fun out _ i wr => ∃ k : Nat, k ≤ l.length ∧ i = .int .i64 k ∧ wr.ownsRow w2.heap.size 3 1 out (fmK (notP sch) (·.id) l k).length ((fmK (notP sch) (·.id) l k).flatMap encI) ∧ Ext w2 wr) (fun _ _ i _ => l.length - (intOf i).toNat)
  case atStart => exact ⟨0, Nat.zero_le _, rfl, by rw [fmK_zero]; exact World.ownsRow_nil _ _ _ _, Ext.refl _⟩
  case round =>
    obtain ⟨k, hk, rfl, ho, hE⟩ := hrel
    by_cases hlt : k < l.length
    · have hE' := Ext.trans E2 hE
      obtain ⟨r, hx⟩ := get_of_lt hlt
      obtain ⟨b, off, rfl⟩ := Rec.Rd.addr (hv.mono hE') (by omega)
      obtain ⟨ca, cc, c0, c1, c2, c3, hat⟩ := Rec.Rd.cells (hv.mono hE') hx
      have HX := Lib.hid hx
      have hflen := fmK_len (notP sch) (·.id) l k
      clear hx
      obtain ⟨w5, hw5⟩ : ∃ w5, w5 = wr.alloc (.cells #[.int .i64 r.id, .int .i64 r.se, .int .i64 r.ma, .slice ca r.evs.length cc] 49) := ⟨_, rfl⟩
      have E5 : Ext wr w5 := by rw [hw5]; exact (Ext.refl wr).alloc _
      have y0 : w5.cell? ⟨wr.heap.size, 0, none⟩ = some (.int .i64 r.id) := by rw [hw5]; simp
      have HC := rulesFor_ok sch r.se _ w5 (hvs.mono (Ext.trans hE' E5)) hls
      go_wp2_with fail
      rw [← hw5]
      refine HC.mono ?_
      rintro e w3 ⟨v3, rfl, o3, E3⟩
      obtain ⟨a3, cap3, rfl⟩ := (Reads.of_owns o3).shape
      have y0 := E3.cell y0
      have hE3 := Ext.trans hE (Ext.trans E5 E3)
      have ho3 := (Ext.trans E5 E3).owns ho
      clear c0 c1 c2 c3 HC hw5
      cases hp : notP sch r
      case false =>
        have HK := Lib.hid (fmK_no (f := fun x : Rec => x.id) HX.out hp)
        have hz : (((forR sch r.se).length : Int) == 0) = false := beq_eq_false_iff_ne.2 (by have := of_decide_eq_false hp; omega)
        go_wp2
        go_roundw
        case rel => exact ⟨k + 1, by omega, by go_num, by rw [HK.out]; exact ho3, hE3⟩
        case measure => simp [intOf]; omega
      have HK := Lib.hid (fmK_yes (f := fun x : Rec => x.id) HX.out hp)
      have hz : (((forR sch r.se).length : Int) == 0) = true := beq_iff_eq.2 (by have := of_decide_eq_true hp; omega)
      go_wp2_with (at_builtin; refine wpl_append1 w2 _ rfl _ _ 23 rfl 3 _ 1 8 Try.underlying23 Try.infoInt rfl (by decide) (by decide) _ _ _ hE3 ho3 ?c1 [.int .i64 (r.id)] rfl rfl rfl (encI_one _) ?_)
      case c1 => omega
      intro v' w6 o6 E6 _
      go_wp2
      go_roundw
      case rel => exact ⟨k + 1, by omega, by go_num, by rw [HK.out]; simpa [encI] using o6, E6⟩
      case measure => simp [intOf]; omega
    · have HF := Lib.hid ((fmK_all (notP sch) (·.id) (show l.length ≤ k by omega)).trans HN.out.symm)
      rw [HF.out] at ho
      go_wp2
      go_ret2
      exact ⟨_, rfl, owns_mono ho E2.size, Ext.trans E2 hE⟩
end Go.Proofs.Ytpmjjkhikciokaa
