/- What the functions for the first day without a hold compute; no condition beyond the lengths and lists that are named. -/
import Derived.Test.YtnmkkamphlleiaaHoldOn2
import Derived.Test.YtnmkkamphlleiaaFreeData
namespace Go.Rd
theorem fpasses_succ (l : List Hld) (r : Rec) : ∀ (n : Nat) (s : Option Int), fpasses l r (n + 1) s = fpass l r (fpasses l r n s)
  | 0, _ => rfl
  | n + 1, s => by rw [fpasses, fpasses_succ l r n, ← fpasses]
theorem fpass_step {l : List Hld} {r : Rec} {k : Nat} {h : Hld} {s : Option Int} (hx : l[k]? = some h) : fpass (l.take (k + 1)) r s = fstep r (fpass (l.take k) r s) h := by
  unfold fpass; rw [List.take_add_one, hx, List.foldl_append]; rfl
theorem fpass_open {l : List Hld} {r : Rec} {k : Nat} {s : Option Int} (h : fpass (l.take k) r s = none) : fpass l r s = none := by
  unfold fpass at h ⊢
  rw [← List.take_append_drop k l, List.foldl_append, h]
  exact fpass_none (l.drop k) r
theorem fpasses_open {l : List Hld} {r : Rec} {s : Option Int} : ∀ (m n : Nat), m ≤ n → fpasses l r m s = none → fpasses l r n s = none
  | m, n, hmn, h => by
    obtain ⟨j, rfl⟩ : ∃ j, n = m + j := ⟨n - m, by omega⟩
    induction j with
    | zero => exact h
    | succ j ih => rw [← Nat.add_assoc, fpasses_succ, ih (by omega), fpass_none]
theorem fstep_no {r : Rec} {h : Hld} {c : Int} (hc : cov h r c = false) : fstep r (some c) h = some c := by simp only [fstep, hc, Bool.false_eq_true, if_false]
theorem fstep_open {r : Rec} {h : Hld} {c : Int} (hc : cov h r c = true) (hu : (h.un == -1) = true) : fstep r (some c) h = none := by simp only [fstep, hc, hu, if_true]
theorem fstep_to {r : Rec} {h : Hld} {c : Int} (hc : cov h r c = true) (hu : (h.un == -1) = false) : fstep r (some c) h = some h.un := by simp only [fstep, hc, hu, if_true, Bool.false_eq_true, if_false]
end Go.Rd
namespace Go.Proofs.Ytnmkkamphlleiaa
open Go.RowKit Go.Sort Go.Rd
set_option maxHeartbeats 4000000 in
theorem l9Free_ok (l : List Hld) (r : Rec) (day : Int) (v sv : Value) (w : World) (hv : Hld.Rd w v l) (hr : Rec.At w (r, sv)) (hl : l.length ≤ 1048576) (hll : ∀ h ∈ l, h.ss.length ≤ 1048576) :
    Calls Try.prog 65 #[v, .agg #[.int .i64 r.id, .int .i64 r.se, .int .i64 r.ma, sv], .int .i64 day] w fun e w' => e = .returned (.int .i64 ((fpasses l r (l.length + 1) (some day)).getD 20001)) ∧ Ext w w' := by
  have mixed : Try.prog.follows .mixedOrders = true := by kernel_rfl
  obtain ⟨a, cap, rfl⟩ := hv.shape
  obtain ⟨a2, cap2, hs⟩ := Reads.shape hr
  simp only at hs
  subst hs
  have HL := Lib.hid hll
  obtain ⟨w2, hw2⟩ : ∃ w2, w2 = w.alloc (.cells #[.int .i64 r.id, .int .i64 r.se, .int .i64 r.ma, .slice a2 r.evs.length cap2] 41) := ⟨_, rfl⟩
  have E2 : Ext w w2 := by rw [hw2]; exact (Ext.refl w).alloc _
  have k0 : w2.cell? ⟨w.heap.size, 0, none⟩ = some (.int .i64 r.id) := by rw [hw2]; simp
  have k1 : w2.cell? ⟨w.heap.size, 1, none⟩ = some (.int .i64 r.se) := by rw [hw2]; simp
  have k2 : w2.cell? ⟨w.heap.size, 2, none⟩ = some (.int .i64 r.ma) := by rw [hw2]; simp
  have k3 : w2.cell? ⟨w.heap.size, 3, none⟩ = some (.slice a2 r.evs.length cap2) := by rw [hw2]; simp
  obtain ⟨res, hres⟩ : ∃ z, (fpasses l r (l.length + 1) (some day)).getD 20001 = z := ⟨_, rfl⟩
  rw [hres]
  have HR := Lib.hid hres
  clear hll hres
  go_enter Try.func65, Try.ntmps65
  go_wp2
  rw [← hw2]
  clear hw2
  go_loopw [2, 7, 8] (fun dv nv _ wr => ∃ (n : Nat) (c : Int), n ≤ l.length + 1 ∧ nv = .int .i64 n ∧ dv = .int .i64 c ∧ Hid (fpasses l r n (some day) = some c) ∧ Ext w2 wr) (fun _ nv _ _ => l.length + 1 - (intOf nv).toNat)
  case atStart => exact ⟨0, day, by omega, rfl, rfl, Lib.hid rfl, Ext.refl _⟩
  case round =>
    obtain ⟨n, c, hn, rfl, rfl, HP, hE⟩ := hrel
    by_cases hlt : n ≤ l.length
    · have HQ := Lib.hid (fun c' (h : fpass l r (some c) = some c') => (fpasses_succ l r n (some day)).trans ((congrArg (fpass l r) HP.out).trans h))
      have HO : Hid (fpass l r (some c) = none → res = 20001) := Lib.hid (fun h => by rw [← HR.out, fpasses_open (n + 1) (l.length + 1) (by omega) ((fpasses_succ l r n (some day)).trans ((congrArg (fpass l r) HP.out).trans h))]; rfl)
      go_wp2
      go_loopw [2, 8] (fun dv iv wr => ∃ (k : Nat) (c1 : Int), k ≤ l.length ∧ iv = .int .i64 k ∧ dv = .int .i64 c1 ∧ Hid (fpass (l.take k) r (some c) = some c1) ∧ Ext w2 wr) (fun _ iv _ => l.length - (intOf iv).toNat)
      case atStart => exact ⟨0, c, Nat.zero_le _, rfl, rfl, Lib.hid rfl, hE⟩
      case round =>
        obtain ⟨k, c1, hk, rfl, rfl, HS, hE⟩ := hrel
        by_cases hlt2 : k < l.length
        · have hE' := Ext.trans E2 hE
          obtain ⟨h, hx⟩ := get_of_lt hlt2
          obtain ⟨b, off, rfl⟩ := Hld.Rd.addr (hv.mono hE') (by omega)
          obtain ⟨ca, cc, d0, d1, d2, d3, d4, d5, hat⟩ := Hld.Rd.cells (hv.mono hE') hx
          have hhl := HL.out h (List.mem_of_getElem? hx)
          have HSTEP := Lib.hid ((fpass_step (r := r) (s := some c) hx).trans (congrArg (fun s => fstep r s h) HS.out))
          have x0 := cell_in_class d0
          have x1 := cell_in_class d1
          have x2 := cell_in_class d2
          have x3 := cell_in_class d3
          have x4 := cell_in_class d4
          have x5 := cell_in_class d5
          have y0 := cell_in_class (hE.cell k0)
          have y1 := cell_in_class (hE.cell k1)
          have y2 := cell_in_class (hE.cell k2)
          have y3 := cell_in_class (hE.cell k3)
          have cO := Calls.in_class (w := wr) (fun w' hw' => l9Covers_ok h r c1 _ _ w' (hat.mono hw') (Reads.mono (Ext.trans hE' hw') hr) hhl)
          clear hx
          go_upto_region 7 with fail
          go_cut [27] (fun q wx => q = .bool (cov h r c1) ∧ Ext wr wx)
          case first =>
            refine wp_region_quiet_below mixed (by kernel_rfl) ?_
            repeat (first | go_big_quiet_step (exact cO _ _) | quiet_step (exact cO _ _))
            refine wpQuiet_nil ?_
            intro _ hw'
            obtain ⟨⟨dq, osq⟩, hw''⟩ := hw'
            subst hw''
            clear cO x0 x1 x2 x3 x4 x5 y0 y1 y2 y3
            go_wp2
            go_meet
            exact ⟨rfl, (Ext.refl wr).regrown dq osq⟩
          case rest =>
          obtain ⟨rfl, hE2⟩ := hcut
          clear x0 x1 x2 x3 x4 x5 y0 y1 y2 y3 cO d0 d1 d3 d4 d5
          have d2 := hE2.cell d2
          have hE3 := Ext.trans hE hE2
          cases hc : cov h r c1
          case false =>
            have HK := Lib.hid (HSTEP.out.trans (fstep_no hc))
            go_wp2
            go_roundw
            case rel => exact ⟨k + 1, c1, by omega, by go_num, rfl, HK, hE3⟩
            case measure => simp [intOf]; omega
          cases hu : (h.un == -1)
          case true =>
            have HF : Hid (res = 20001) := Lib.hid (HO.out (fpass_open (HSTEP.out.trans (fstep_open hc hu))))
            go_wp2
            go_ret
            exact ⟨ret_int HF.out.symm, Ext.trans E2 hE3⟩
          have HK := Lib.hid (HSTEP.out.trans (fstep_to hc hu))
          go_wp2
          go_roundw
          case rel => exact ⟨k + 1, h.un, by omega, by go_num, rfl, HK, hE3⟩
          case measure => simp [intOf]; omega
        · have HK := Lib.hid (HQ.out c1 (by have := HS.out; rwa [List.take_of_length_le (by omega)] at this))
          go_wp2
          go_roundw
          case rel => exact ⟨n + 1, c1, by omega, by go_num, rfl, HK, hE⟩
          case measure => simp [intOf]; omega
    · have HF : Hid (res = c) := Lib.hid (by rw [← HR.out, ← show n = l.length + 1 by omega, HP.out]; rfl)
      go_wp2
      go_ret
      exact ⟨ret_int HF.out.symm, Ext.trans E2 hE⟩
set_option maxHeartbeats 4000000 in
theorem freeDay_ok (l : List Hld) (r : Rec) (day : Int) (v sv : Value) (w : World) (h0 : 0 ≤ day) (h1 : day ≤ 1000000) (hg : goodHs l = true) (hv : Hld.Rd w v l) (hr : Rec.At w (r, sv)) (hl : l.length ≤ 1048576) (hll : ∀ h ∈ l, h.ss.length ≤ 1048576) :
    Calls Try.prog 68 #[v, .agg #[.int .i64 r.id, .int .i64 r.se, .int .i64 r.ma, sv], .int .i64 day] w fun e w' => e = .returned (.tuple #[.int .i64 ((freeO l r day).getD 0), .bool (freeO l r day).isSome]) ∧ Ext w w' := by
  obtain ⟨a, cap, rfl⟩ := hv.shape
  obtain ⟨a2, cap2, hs⟩ := Reads.shape hr
  simp only at hs
  subst hs
  have HL := Lib.hid hll
  have HG := Lib.hid hg
  obtain ⟨w2, hw2⟩ : ∃ w2, w2 = w.alloc (.cells #[.int .i64 r.id, .int .i64 r.se, .int .i64 r.ma, .slice a2 r.evs.length cap2] 41) := ⟨_, rfl⟩
  have E2 : Ext w w2 := by rw [hw2]; exact (Ext.refl w).alloc _
  have k0 : w2.cell? ⟨w.heap.size, 0, none⟩ = some (.int .i64 r.id) := by rw [hw2]; simp
  have k1 : w2.cell? ⟨w.heap.size, 1, none⟩ = some (.int .i64 r.se) := by rw [hw2]; simp
  have k2 : w2.cell? ⟨w.heap.size, 2, none⟩ = some (.int .i64 r.ma) := by rw [hw2]; simp
  have k3 : w2.cell? ⟨w.heap.size, 3, none⟩ = some (.slice a2 r.evs.length cap2) := by rw [hw2]; simp
  obtain ⟨res, hres⟩ : ∃ z, freeO l r day = z := ⟨_, rfl⟩
  rw [hres]
  have HR := Lib.hid hres
  clear hll hg hres
  go_enter Try.func68, Try.ntmps68
  go_wp2
  rw [← hw2]
  clear hw2
  go_loopw [2] (fun dv wr => ∃ c : Int, 0 ≤ c ∧ c ≤ 1000001 ∧ dv = .int .i64 c ∧ Hid (freeO l r c = res) ∧ Ext w2 wr) (fun dv _ => (1000001 - intOf dv).toNat)
  case atStart => exact ⟨day, h0, by omega, rfl, HR, Ext.refl _⟩
  case round =>
    obtain ⟨c, hc0, hc1, rfl, HC, hE⟩ := hrel
    by_cases hlt : c ≤ 20000
    · have hE' := Ext.trans E2 hE
      have j0 := hE.cell k0
      have j1 := hE.cell k1
      have j2 := hE.cell k2
      have j3 := hE.cell k3
      go_wp2_with fail
      refine (holdsOn_ok l r c _ _ _ HG.out (hv.mono hE') (Reads.mono hE' hr) hl HL.out).mono ?_
      rintro e w4 ⟨v4, rfl, o4, E4⟩
      obtain ⟨a4, cap4, rfl⟩ := (Reads.of_owns o4).shape
      have hE4 := Ext.trans hE E4
      have HB := Lib.hid (heldB_on l r c)
      obtain ⟨m, hm⟩ : ∃ m, (onL l r c).length = m := ⟨_, rfl⟩
      rw [hm] at HB ⊢
      clear j0 j1 j2 j3 hm
      by_cases hz : m = 0
      · have hz' : ((m : Int) == 0) = true := beq_iff_eq.2 (by omega)
        have HF : Hid (res = some c) := Lib.hid (by rw [← HC.out]; exact freeO_free hlt (by have := HB.out; rw [decide_eq_true hz] at this; simpa using this.symm))
        obtain rfl := HF.out
        go_wp2
        go_ret2
        exact ⟨rfl, Ext.trans E2 hE4⟩
      · have hz' : ((m : Int) == 0) = false := beq_eq_false_iff_ne.2 (by omega)
        have HF : Hid (freeO l r (c + 1) = res) := Lib.hid (by rw [← HC.out]; exact (freeO_held hlt (by have := HB.out; rw [decide_eq_false hz] at this; simpa using this.symm)).symm)
        have n4 : IntKind.i64.wrap (c + 1) = c + 1 := IntWalk.i64_in _ (by omega)
        go_wp2
        go_roundw
        case rel => exact ⟨c + 1, by omega, by omega, rfl, HF, hE4⟩
        case measure => simp [intOf]; omega
    · have HF : Hid (res = none) := Lib.hid (by rw [← HC.out]; exact freeO_end (by omega))
      obtain rfl := HF.out
      go_wp2
      go_ret2
      exact ⟨rfl, Ext.trans E2 hE⟩
end Go.Proofs.Ytnmkkamphlleiaa
