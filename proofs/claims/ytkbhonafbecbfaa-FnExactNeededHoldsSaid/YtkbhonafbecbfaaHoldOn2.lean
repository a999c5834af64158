/- What l9On, holdsOn and HoldsOn compute; no condition beyond the lengths and lists that are named. -/
import Derived.Test.YtkbhonafbecbfaaHoldOn
namespace Go.Rd
def holdsL (l : List Hld) (r : Rec) (day : Int) : List Int := if askedH l r day = true then onL l r day else []
theorem holdsL_yes {l : List Hld} {r : Rec} {day : Int} (h : askedH l r day = true) : holdsL l r day = onL l r day := if_pos h
theorem holdsL_no {l : List Hld} {r : Rec} {day : Int} (h : askedH l r day = false) : holdsL l r day = [] := if_neg (by rw [h]; exact Bool.false_ne_true)
theorem holdsL_length (l : List Hld) (r : Rec) (day : Int) : (holdsL l r day).length ≤ l.length := by
  unfold holdsL; split
  · exact onL_length l r day
  · simp
end Go.Rd
namespace Go.Proofs.Ytkbhonafbecbfaa
open Go.RowKit Go.Sort Go.Rd
set_option maxHeartbeats 4000000 in
theorem l9On_ok (l : List Hld) (r : Rec) (day : Int) (v sv : Value) (w : World) (hv : Hld.Rd w v l) (hr : Rec.At w (r, sv)) (hl : l.length ≤ 1048576) (hll : ∀ h ∈ l, h.ss.length ≤ 1048576) :
    Calls Try.prog 83 #[v, .agg #[.int .i64 r.id, .int .i64 r.se, .int .i64 r.ma, sv], .int .i64 day] w (RetRead w 1 (onL l r day).length ((onL l r day).flatMap encI)) := by
  have mixed : Try.prog.follows .mixedOrders = true := by kernel_rfl
  obtain ⟨a, cap, rfl⟩ := hv.shape
  obtain ⟨a2, cap2, hs⟩ := Reads.shape hr
  simp only at hs
  subst hs
  have HL := Lib.hid hll
  obtain ⟨w2, hw2⟩ : ∃ w2, w2 = (w.alloc (.cells #[.int .i64 r.id, .int .i64 r.se, .int .i64 r.ma, .slice a2 r.evs.length cap2] 45)).alloc (.cells #[] 3) := ⟨_, rfl⟩
  have E2 : Ext w w2 := by rw [hw2]; exact ((Ext.refl w).alloc _).alloc _
  have k0 : w2.cell? ⟨w.heap.size, 0, none⟩ = some (.int .i64 r.id) := by rw [hw2]; simp
  have k1 : w2.cell? ⟨w.heap.size, 1, none⟩ = some (.int .i64 r.se) := by rw [hw2]; simp
  have k2 : w2.cell? ⟨w.heap.size, 2, none⟩ = some (.int .i64 r.ma) := by rw [hw2]; simp
  have k3 : w2.cell? ⟨w.heap.size, 3, none⟩ = some (.slice a2 r.evs.length cap2) := by rw [hw2]; simp
  clear hll
  go_enter Try.func83, Try.ntmps83
  go_wp2
  rw [← hw2]
  clear hw2
  go_loopw [7, 8] (fun out i wr => ∃ k : Nat, k ≤ l.length ∧ i = .int .i64 k ∧ OutR w2 wr 3 1 out (fmK (fun h => cov h r day) (·.id) l k).length ((fmK (fun h => cov h r day) (·.id) l k).flatMap encI) ∧ Ext w2 wr) (fun _ i _ => l.length - (intOf i).toNat)
  case atStart => exact ⟨0, Nat.zero_le _, rfl, by rw [fmK_zero]; exact OutR.empty _ _ _ _ _, Ext.refl _⟩
  case round =>
    obtain ⟨k, hk, rfl, ho, hE⟩ := hrel
    by_cases hlt : k < l.length
    · have hE' := Ext.trans E2 hE
      obtain ⟨h, hx⟩ := get_of_lt hlt
      obtain ⟨b, off, rfl⟩ := Hld.Rd.addr (hv.mono hE') (by omega)
      obtain ⟨ca, cc, c0, c1, c2, c3, c4, c5, hat⟩ := Hld.Rd.cells (hv.mono hE') hx
      have HX := Lib.hid hx
      have hflen := fmK_len (fun h => cov h r day) (·.id) l k
      have hhl := HL.out h (List.mem_of_getElem? hx)
      have x0 := cell_in_class c0
      have x1 := cell_in_class c1
      have x2 := cell_in_class c2
      have x3 := cell_in_class c3
      have x4 := cell_in_class c4
      have x5 := cell_in_class c5
      have y0 := cell_in_class (hE.cell k0)
      have y1 := cell_in_class (hE.cell k1)
      have y2 := cell_in_class (hE.cell k2)
      have y3 := cell_in_class (hE.cell k3)
      have cO := Calls.in_class (w := wr) (fun w' hw' => l9Covers_ok h r day _ _ w' (hat.mono hw') (Reads.mono (Ext.trans hE' hw') hr) hhl)
      clear hx
      go_upto_region 5 with fail
      go_cut [22] (fun c wx => c = .bool (cov h r day) ∧ Ext wr wx)
      case first =>
        refine wp_region_quiet_below mixed (by kernel_rfl) ?_
        repeat (first | go_big_quiet_step (exact cO _ _) | quiet_step (exact cO _ _))
        refine wpQuiet_nil ?_
        intro _ hw'
        obtain ⟨⟨dq, osq⟩, hw''⟩ := hw'
        subst hw''
        clear cO x0 x1 x2 x3 x4 x5 y0 y1 y2 y3
        go_wp2
        go_meet
        exact ⟨rfl, (Ext.refl wr).regrown dq osq⟩
      case rest =>
      obtain ⟨rfl, hE2⟩ := hcut
      clear x0 x1 x2 x3 x4 x5 y0 y1 y2 y3 cO c1 c2 c3 c4 c5
      have c0 := hE2.cell c0
      have ho1 := OutR.ext hE2 ho
      have hE3 := Ext.trans hE hE2
      cases hp : cov h r day
      case false =>
        have HK := Lib.hid (fmK_no (p := fun h => cov h r day) (f := fun x : Hld => x.id) HX.out hp)
        go_wp2
        go_roundw
        case rel => exact ⟨k + 1, by omega, by go_num, by rw [HK.out]; exact ho1, hE3⟩
        case measure => simp [intOf]; omega
      have HK := Lib.hid (fmK_yes (p := fun h => cov h r day) (f := fun x : Hld => x.id) HX.out hp)
      go_wp2_with (at_builtin; refine wpl_appendR w2 _ rfl _ _ 67 rfl 3 _ 1 8 Try.underlying67 Try.infoInt rfl (by decide) (by decide) _ _ _ hE3 ho1 ?c1 [.int .i64 (h.id)] rfl rfl rfl (encI_one _) ?_)
      case c1 => omega
      intro v' w5 o5 E5 _
      go_wp2
      go_roundw
      case rel => exact ⟨k + 1, by omega, by go_num, by rw [HK.out]; simpa [encI] using o5, E5⟩
      case measure => simp [intOf]; omega
    · have HF : Hid (fmK (fun h => cov h r day) (·.id) l k = onL l r day) := Lib.hid (fmK_all _ _ (show l.length ≤ k by omega))
      rw [HF.out] at ho
      go_wp2
      go_ret
      exact ⟨_, rfl, ho.reads, Ext.trans E2 hE⟩
set_option maxHeartbeats 4000000 in
theorem holdsOn_ok (l : List Hld) (r : Rec) (day : Int) (v sv : Value) (w : World) (hg : goodHs l = true) (hv : Hld.Rd w v l) (hr : Rec.At w (r, sv)) (hl : l.length ≤ 1048576) (hll : ∀ h ∈ l, h.ss.length ≤ 1048576) :
    Calls Try.prog 90 #[v, .agg #[.int .i64 r.id, .int .i64 r.se, .int .i64 r.ma, sv], .int .i64 day] w (RetOwn w 3 1 (onL l r day).length ((onL l r day).flatMap encI)) := by
  obtain ⟨a, cap, rfl⟩ := hv.shape
  obtain ⟨a2, cap2, hs⟩ := Reads.shape hr
  simp only at hs
  subst hs
  have HL := Lib.hid hll
  have HG := Lib.hid hg
  obtain ⟨w2, hw2⟩ : ∃ w2, w2 = w.alloc (.cells #[.int .i64 r.id, .int .i64 r.se, .int .i64 r.ma, .slice a2 r.evs.length cap2] 45) := ⟨_, rfl⟩
  have E2 : Ext w w2 := by rw [hw2]; exact (Ext.refl w).alloc _
  have k0 : w2.cell? ⟨w.heap.size, 0, none⟩ = some (.int .i64 r.id) := by rw [hw2]; simp
  have k1 : w2.cell? ⟨w.heap.size, 1, none⟩ = some (.int .i64 r.se) := by rw [hw2]; simp
  have k2 : w2.cell? ⟨w.heap.size, 2, none⟩ = some (.int .i64 r.ma) := by rw [hw2]; simp
  have k3 : w2.cell? ⟨w.heap.size, 3, none⟩ = some (.slice a2 r.evs.length cap2) := by rw [hw2]; simp
  clear hll hg
  go_enter Try.func90, Try.ntmps90
  go_wp2
  rw [← hw2]
  clear hw2
  go_loopw [7, 9, 12] (fun out _ i wr => ∃ k : Nat, k ≤ l.length ∧ i = .int .i64 k ∧ wr.ownsRow w2.heap.size 3 1 out (fmK (fun h => cov h r day) (·.id) l k).length ((fmK (fun h => cov h r day) (·.id) l k).flatMap encI) ∧ Ext w2 wr) (fun _ _ i _ => l.length - (intOf i).toNat)
  case atStart => exact ⟨0, Nat.zero_le _, rfl, by rw [fmK_zero]; exact World.ownsRow_nil _ _ _ _, Ext.refl _⟩
  case round =>
    obtain ⟨k, hk, rfl, ho, hE⟩ := hrel
    by_cases hlt : k < l.length
    · have hE' := Ext.trans E2 hE
      obtain ⟨h, hx⟩ := get_of_lt hlt
      obtain ⟨b, off, rfl⟩ := Hld.Rd.addr (hv.mono hE') (by omega)
      obtain ⟨ca, cc, c0, c1, c2, c3, c4, c5, hat⟩ := Hld.Rd.cells (hv.mono hE') hx
      have HX := Lib.hid hx
      have hflen := fmK_len (fun h => cov h r day) (·.id) l k
      have hhl := HL.out h (List.mem_of_getElem? hx)
      have hok := goodHs_mem HG.out (List.mem_of_getElem? hx)
      obtain ⟨w4, hw4⟩ : ∃ w4, w4 = wr.alloc (.cells #[.int .i64 h.id, .int .i64 h.fr, .int .i64 h.un, .slice ca h.ss.length cc, .int .i64 h.fi, .int .i64 h.la] 93) := ⟨_, rfl⟩
      have E4 : Ext wr w4 := by rw [hw4]; exact (Ext.refl wr).alloc _
      have y0 : w4.cell? ⟨wr.heap.size, 0, none⟩ = some (.int .i64 h.id) := by rw [hw4]; simp
      have hE4 := Ext.trans hE E4
      have j0 := hE.cell k0
      have j1 := hE.cell k1
      have j2 := hE.cell k2
      have j3 := hE.cell k3
      have hjb := block_lt_of_cell j0
      have HC := covers_ok h r day _ _ w4 hok (hat.mono E4) (Reads.mono (Ext.trans hE' E4) hr) hhl
      clear hx
      go_wp2_with fail
      rw [← hw4]
      refine HC.mono ?_
      rintro e w5 ⟨rfl, E5⟩
      have y0 := E5.cell y0
      have E45 := Ext.trans E4 E5
      have ho1 := E45.owns ho
      have hE3 := Ext.trans hE E45
      clear c0 c1 c2 c3 c4 c5 j0 j1 j2 j3 hw4 HC
      cases hp : cov h r day
      case false =>
        have HK := Lib.hid (fmK_no (p := fun h => cov h r day) (f := fun x : Hld => x.id) HX.out hp)
        go_wp2
        go_roundw
        case rel => exact ⟨k + 1, by omega, by go_num, by rw [HK.out]; exact ho1, hE3⟩
        case measure => simp [intOf]; omega
      have HK := Lib.hid (fmK_yes (p := fun h => cov h r day) (f := fun x : Hld => x.id) HX.out hp)
      go_wp2_with (at_builtin; refine wpl_append1 w2 _ rfl _ _ 67 rfl 3 _ 1 8 Try.underlying67 Try.infoInt rfl (by decide) (by decide) _ _ _ hE3 ho1 ?c1 [.int .i64 (h.id)] rfl rfl rfl (encI_one _) ?_)
      case c1 => omega
      intro v' w6 o6 E6 _
      go_wp2
      go_roundw
      case rel => exact ⟨k + 1, by omega, by go_num, by rw [HK.out]; simpa [encI] using o6, E6⟩
      case measure => simp [intOf]; omega
    · have HF : Hid (fmK (fun h => cov h r day) (·.id) l k = onL l r day) := Lib.hid (fmK_all _ _ (show l.length ≤ k by omega))
      rw [HF.out] at ho
      go_wp2
      go_ret
      exact ⟨_, rfl, owns_mono ho E2.size, Ext.trans E2 hE⟩
end Go.Proofs.Ytkbhonafbecbfaa
