/- What the program's seriesIn computes; no condition beyond the lengths that are named. -/
import Derived.Test.YtkbhonafbecbfaaRules2
import Derived.Test.YtkbhonafbecbfaaContraData
import Derived.Test.YtkbhonafbecbfaaIntSl
namespace Go.Proofs.Ytkbhonafbecbfaa
open Go.RowKit Go.Sort Go.Rd
set_option maxHeartbeats 1000000 in
theorem seriesIn_ok (l : List Rul) (v : Value) (w : World) (hv : Reads w 4 v l.length (l.flatMap Rul.enc)) (hl : l.length ≤ 1048576) :
    Calls Try.prog 100 #[v] w (RetOwn w 3 1 (sIn l).length ((sIn l).flatMap encI)) := by
  obtain ⟨a, cap, rfl⟩ := hv.shape
  go_enter Try.func100, Try.ntmps100
  go_wp2
  go_loopw [3, 5, 8] (fun out _ i wr => ∃ k : Nat, k ≤ l.length ∧ i = .int .i64 k ∧ wr.ownsRow w.heap.size 3 1 out (sIn (l.take k)).length ((sIn (l.take k)).flatMap encI) ∧ Ext w wr) (fun _ _ i _ => l.length - (intOf i).toNat)
  case atStart => exact ⟨0, Nat.zero_le _, rfl, World.ownsRow_nil _ _ _ _, Ext.refl _⟩
  case round =>
    obtain ⟨k, hk, rfl, ho, hE⟩ := hrel
    by_cases hlt : k < l.length
    · have hv1 := hv.mono hE
      obtain ⟨b, off, rfl, hc⟩ := Reads.elems Rul.enc_len hv1 (by omega)
      obtain ⟨⟨p1, p2, p3, p4⟩, hx⟩ := get_of_lt hlt
      have c0 := hc k _ hx 0 _ rfl
      have c1 := hc k _ hx 1 _ rfl
      have c2 := hc k _ hx 2 _ rfl
      have c3 := hc k _ hx 3 _ rfl
      rw [Nat.add_zero] at c0
      have HS : Hid (sIn (l.take (k + 1)) = addN (sIn (l.take k)) p1) := (foldl_take_step (fun (o : List Int) (r : Rul) => addN o r.se) [] l k _ hx : sIn (l.take (k + 1)) = addN (sIn (l.take k)) p1)
      clear hc hx hv1
      have hflen : (sIn (l.take k)).length ≤ 1048576 := by
        have := sIn_length (l.take k)
        have := List.length_take_le k l
        omega
      obtain ⟨m, hm⟩ : ∃ m, sIn (l.take k) = m := ⟨_, rfl⟩
      rw [hm] at ho hflen HS
      clear hm
      have hE1 := hE.alloc (.cells #[.int .i64 p1, .int .i64 p2, .int .i64 p3, .int .i64 p4] 38)
      have o1 := ((Ext.refl wr).alloc (.cells #[.int .i64 p1, .int .i64 p2, .int .i64 p3, .int .i64 p4] 38)).owns ho
      cases hcc : m.contains p1
      case true =>
        have HK := Lib.hid (HS.out.trans (addN_yes hcc))
        go_wp2_with fail
        refine (containsInt_ok m p1 _ _ (Reads.of_owns o1) (by omega)).mono ?_
        rintro e w' ⟨rfl, rfl⟩
        rw [hcc]
        go_wp2
        go_roundw
        case rel => exact ⟨k + 1, by omega, by go_num, by rw [HK.out]; exact o1, hE1⟩
        case measure => simp [intOf]; omega
      case false =>
        have HK := Lib.hid (HS.out.trans (addN_no hcc))
        go_wp2_with fail
        refine (containsInt_ok m p1 _ _ (Reads.of_owns o1) (by omega)).mono ?_
        rintro e w' ⟨rfl, rfl⟩
        rw [hcc]
        obtain ⟨w1, hw1⟩ : ∃ w1, w1 = wr.alloc (.cells #[.int .i64 p1, .int .i64 p2, .int .i64 p3, .int .i64 p4] 38) := ⟨_, rfl⟩
        have k0 : w1.cell? ⟨wr.heap.size, 0, none⟩ = some (.int .i64 p1) := by rw [hw1]; simp
        rw [← hw1] at o1 hE1 ⊢
        clear hw1
        go_wp2_with (at_builtin; refine wpl_append1 w w1 rfl _ _ 67 rfl 3 _ 1 8 Try.underlying67 Try.infoInt rfl (by decide) (by decide) _ _ _ hE1 o1 ?c1 [.int .i64 p1] rfl rfl rfl (encI_one p1) ?_)
        case c1 => omega
        intro v' w2 o2 E2 _
        go_wp2
        go_roundw
        case rel =>
          refine ⟨k + 1, by omega, by go_num, ?_, E2⟩
          rw [HK.out]
          simpa [encI] using o2
        case measure => simp [intOf]; omega
    · have ho2 := ho
      rw [List.take_of_length_le (by omega)] at ho2
      go_wp2
      go_ret
      exact ⟨_, rfl, ho2, hE⟩
end Go.Proofs.Ytkbhonafbecbfaa
