/- What the reference's l1Put computes; no condition beyond the lengths and rooms that are named. -/
import Derived.Test.YtefabcnifbnehaaDoorInts
import Derived.Test.YtefabcnifbnehaaDoorPutData
import Derived.Test.YtefabcnifbnehaaDoorStepA
import Derived.Test.YtefabcnifbnehaaDoorRoomA
namespace Go.Rd
open Go.RowKit Go.Sort
theorem put_reads {w : World} {v : Value} {l : List Int} {k : Nat} {n : Int} (hk : k ≤ l.length) (h : Reads w 1 v (0 + k + 1 + (l.length - k)) ([] ++ (l.take k).flatMap encI ++ [.int .i64 n] ++ (l.drop k).flatMap encI)) :
    Reads w 1 v (l.take k ++ [n] ++ l.drop k).length ((l.take k ++ [n] ++ l.drop k).flatMap encI) := by
  have e1 : (l.take k ++ [n] ++ l.drop k).length = 0 + k + 1 + (l.length - k) := by simp only [List.length_append, List.length_take, List.length_drop, List.length_singleton]; omega
  have e2 : (l.take k ++ [n] ++ l.drop k).flatMap encI = [] ++ (l.take k).flatMap encI ++ [.int .i64 n] ++ (l.drop k).flatMap encI := by simp [List.flatMap_append, encI]
  rw [e1, e2]; exact h
theorem take_cells {w : World} {b off n cap m : Nat} {l : List Int} (h : Reads w 1 (.slice (some ⟨b, off, none⟩) n cap) m (l.flatMap encI)) (hm : m = l.length) (k : Nat) : ∀ w', Ext w w' → ∀ j u, ((l.take k).flatMap encI)[j]? = some u → w'.cell? ((⟨b, off, none⟩ : Addr).add j) = some u := by
  subst hm
  intro w' hE j u hu
  have hadd : (⟨b, off, none⟩ : Addr).add j = ⟨b, off + j, none⟩ := by unfold Addr.add; split <;> simp_all
  rw [hadd]
  have hj := (List.getElem?_eq_some_iff.1 hu).1
  rw [flat_length encI 1 encI_len, List.length_take] at hj
  obtain ⟨_, b', off', ha, hc⟩ := (Reads.mono hE h).at (by omega)
  simp only [Option.some.injEq, Addr.mk.injEq, and_true] at ha
  obtain ⟨rfl, rfl⟩ := ha
  rw [hc j (by omega), ← hu]
  conv => lhs; rw [← List.take_append_drop k l, List.flatMap_append]
  rw [List.getElem?_append_left (by rw [flat_length encI 1 encI_len, List.length_take]; omega)]
theorem drop_cells {w : World} {b off n cap m : Nat} {l : List Int} (h : Reads w 1 (.slice (some ⟨b, off, none⟩) n cap) m (l.flatMap encI)) (hm : m = l.length) (k : Nat) (ad : Addr) (had : k < l.length → ad = ⟨b, off + k, none⟩) : ∀ w', Ext w w' → ∀ j u, ((l.drop k).flatMap encI)[j]? = some u → w'.cell? (ad.add j) = some u := by
  subst hm
  intro w' hE j u hu
  have hj := (List.getElem?_eq_some_iff.1 hu).1
  rw [flat_length encI 1 encI_len, List.length_drop] at hj
  rw [had (by omega)]
  have hadd : (⟨b, off + k, none⟩ : Addr).add j = ⟨b, off + k + j, none⟩ := by unfold Addr.add; split <;> simp_all
  rw [hadd]
  obtain ⟨_, b', off', ha, hc⟩ := (Reads.mono hE h).at (by omega)
  simp only [Option.some.injEq, Addr.mk.injEq, and_true] at ha
  obtain ⟨rfl, rfl⟩ := ha
  rw [show off + k + j = off + (k + j) by omega, hc (k + j) (by omega), ← hu]
  have hl : ((l.take k).flatMap encI).length = k := by rw [flat_length encI 1 encI_len, List.length_take]; omega
  conv => lhs; rw [← List.take_append_drop k l, List.flatMap_append]
  rw [List.getElem?_append_right (by omega), hl, show k + j - k = j by omega]
theorem owns_new1 (w : World) (e : TypeId) (sz : Nat) : (w.alloc (.cells #[] e)).drew.ownsRow w.heap.size e sz (.slice (some ⟨w.heap.size, 0, none⟩) 0 0) 0 [] := owns_here (heap_alloc_new w _) (Nat.le_refl _)
theorem owns_new2 (w : World) (e : TypeId) (sz : Nat) (o : Obj) : ((w.alloc (.cells #[] e)).alloc o).drew.ownsRow w.heap.size e sz (.slice (some ⟨w.heap.size, 0, none⟩) 0 0) 0 [] :=
  owns_here ((heap_alloc_old (w.alloc (.cells #[] e)) o (by simp)).trans (heap_alloc_new w _)) (Nat.le_refl _)
theorem owns_new3 (w : World) (e : TypeId) (sz : Nat) (o : Obj) : ((w.alloc o).alloc (.cells #[] e)).drew.ownsRow w.heap.size e sz (.slice (some ⟨w.heap.size + 1, 0, none⟩) 0 0) 0 [] := by
  have h := heap_alloc_new (w.alloc o) (.cells #[] e)
  rw [show (w.alloc o).heap.size = w.heap.size + 1 by simp] at h
  exact owns_here h (by omega)
theorem ne_up (n : Nat) : (some n : Option Nat) ≠ some (n + 1) := by simp
theorem ne_dn (n : Nat) : (some (n + 1) : Option Nat) ≠ some n := by simp
theorem reads_one' {w : World} {g : Nat} {x : Int} (h : w.cell? ⟨g, 0, none⟩ = some (.int .i64 x)) : Reads w 1 (.slice (some ⟨g, 0, none⟩) 1 1) [x].length ([x].flatMap encI) := by
  refine ⟨rfl, _, _, rfl, .inr ⟨g, 0, rfl, fun i hi => ?_⟩⟩
  obtain rfl : i = 0 := by simp at hi; omega
  rw [Nat.zero_add, h]; rfl
theorem one_news {w : World} {g : Nat} {x : Value} (h : w.cell? ⟨g, 0, none⟩ = some x) : ∀ j u, [x][j]? = some u → w.cell? ((⟨g, 0, none⟩ : Addr).add j) = some u := by
  intro j u hu
  cases j with
  | zero =>
    simp only [List.getElem?_cons_zero, Option.some.injEq] at hu
    subst hu
    have hadd : (⟨g, 0, none⟩ : Addr).add 0 = ⟨g, 0, none⟩ := by unfold Addr.add; split <;> simp_all
    rw [hadd]; exact h
  | succ j => simp at hu
end Go.Rd
namespace Go.Proofs.YtefabcnifbnehaaDoor
open Go.RowKit Go.Sort Go.Rd
set_option maxHeartbeats 8000000 in
theorem l1Put_ok (l : List Int) (n : Int) (v : Value) (w : World) (hv : Reads w 1 v l.length (l.flatMap encI)) (hcap : Room v) (hl : l.length ≤ 1048576) :
    Calls Tryd.prog 83 #[v, .int .i64 n] w (RetReadR w 1 (putI l n).length ((putI l n).flatMap encI)) := by
  obtain ⟨a, cap, rfl⟩ := hv.shape
  have hroom : l.length ≤ cap := hcap _ _ _ rfl
  have HCAP := Lib.hid hcap
  clear hcap
  obtain ⟨N, hN⟩ : ∃ N, putI l n = N := ⟨_, rfl⟩
  have HN := Lib.hid hN
  rw [hN]
  clear hN
  go_enter Tryd.func83, Tryd.ntmps83
  go_wp2
  go_loop [5] (fun i => ∃ k : Nat, k ≤ l.length ∧ i = .int .i64 k ∧ Hid (∀ j x, j < k → l[j]? = some x → x < n)) (fun i => l.length - (intOf i).toNat)
  case atStart => exact ⟨0, Nat.zero_le _, rfl, Lib.hid fun j x h => by omega⟩
  case round =>
    obtain ⟨k, hk, rfl, HALL⟩ := hrel
    have n1 : (k : Int) ≤ (cap : Int) := by omega
    by_cases hlt : k < l.length
    · obtain ⟨b, off, rfl, hc⟩ := Reads.elems encI_len hv (by omega)
      obtain ⟨p, hx⟩ := get_of_lt hlt
      have c0 := hc k _ hx 0 _ rfl
      simp only [Nat.add_zero, Nat.mul_one] at c0
      have HX := Lib.hid hx
      clear hc hx
      have hd : decide ((k : Int) < (l.length : Int)) = true := decide_eq_true (by omega)
      by_cases hp : p < n
      · go_wp2
        go_round
        case rel =>
          refine ⟨k + 1, by omega, by go_num, Lib.hid fun j y hj hy => ?_⟩
          by_cases hjk : j < k
          · exact HALL.out j y hjk hy
          · have : j = k := by omega
            subst this
            have := hy.symm.trans HX.out
            simp only [Option.some.injEq] at this
            rw [this]; exact hp
        case measure => simp [intOf]; omega
      have HK : Hid (lessN l n = k) := Lib.hid (lessN_at l n k hk HALL.out (fun x hx => by rw [HX.out] at hx; cases hx; exact hp))
      cases he : (p == n)
      case true =>
        have HF : Hid (N = l) := Lib.hid (by
          rw [← HN.out, putI, HK.out, HX.out]
          simp only [beq_iff_eq] at he
          rw [if_pos (by rw [he])])
        go_wp2
        go_ret
        rw [HF.out]
        exact ⟨_, rfl, hv, HCAP.out, Ext.refl _⟩
      have HF : Hid (N = l.take k ++ [n] ++ l.drop k) := Lib.hid (by
        rw [← HN.out, putI, HK.out, HX.out]
        simp only [beq_eq_false_iff_ne] at he
        rw [if_neg (by simpa using he)])
      have hck : ¬ cap = k := by omega
      have HT := Lib.hid (take_cells hv rfl k)
      have HD := Lib.hid (drop_cells hv rfl k ⟨b, off + k, none⟩ fun _ => rfl)
      go_wp2
      go_region_law (first
        | (refine step_appN w rfl (.tmp 33) (.tmp 36) 30 rfl 3 _ 1 8 Tryd.underlying30 Tryd.infoInt rfl (by decide) (by decide) _ 0 [] rfl (by repeat' (first | exact Ext.refl _ | assumption | refine Ext.drew ?_ | refine Ext.alloc ?_ _)) (by first | exact owns_new1 _ _ _ | exact owns_new2 _ _ _ _ | exact owns_new3 _ _ _ _) _ _ _ ((l.take k).flatMap encI) rfl (by simp [flat_length encI 1 encI_len]; omega) (HT.out _ (by repeat' (first | exact Ext.refl _ | assumption | refine Ext.drew ?_ | refine Ext.alloc ?_ _))) (flat_one encI_one _) (by omega) ?_; intro v1 w1 o1 E1 G1)
        | (refine step_appN w rfl (.tmp 37) (.tmp 39) 30 rfl 3 _ 1 8 Tryd.underlying30 Tryd.infoInt rfl (by decide) (by decide) _ _ _ rfl (by repeat' (first | exact Ext.refl _ | assumption | refine Ext.drew ?_ | refine Ext.alloc ?_ _)) (by first | exact o1 | exact Ext.owns ((Ext.refl _).alloc _) o1) _ _ _ [.int .i64 n] rfl rfl (one_news (by first | (simp; done) | exact grownBy_cell G1 (by simp) (by first | exact ne_up _ | exact ne_dn _))) (by simp [Value.oneCell']) (by omega) ?_; intro v2 w2 o2 E2 G2)
        | (refine step_appN w rfl (.tmp 40) (.tmp 43) 30 rfl 3 _ 1 8 Tryd.underlying30 Tryd.infoInt rfl (by decide) (by decide) _ _ _ rfl E2 o2 _ _ _ ((l.drop k).flatMap encI) rfl (by simp [flat_length encI 1 encI_len]) (HD.out _ E2) (flat_one encI_one _) (by omega) ?_; intro v3 w3 o3 E3 G3))
      all_goals go_wp2
      all_goals go_ret
      all_goals (rw [HF.out]; exact ⟨v3, rfl, put_reads hk (Reads.of_owns o3), Room.of_owns o3, E3⟩)
    · have HK : Hid (lessN l n = k) := Lib.hid (lessN_at l n k hk HALL.out (fun x hx => by have := (List.getElem?_eq_some_iff.1 hx).1; omega))
      have HF : Hid (N = l.take k ++ [n] ++ l.drop k) := Lib.hid (by
        rw [← HN.out, putI, HK.out, List.getElem?_eq_none (by omega), if_neg (by simp)])
      have hd : decide ((k : Int) < (l.length : Int)) = false := decide_eq_false (by omega)
      cases a with
      | none =>
        obtain rfl : l = [] := by
          obtain ⟨_, a', cap', h1, h2⟩ := hv
          simp only [Value.slice.injEq] at h1
          obtain ⟨rfl, _, rfl⟩ := h1
          rcases h2 with h2 | ⟨b, off, h2, _⟩
          · exact List.eq_nil_of_length_eq_zero h2
          · cases h2
        obtain rfl : k = 0 := by simpa using hk
        go_wp2
        go_region_law (first
          | (refine step_app0 w.heap.size rfl (.tmp 33) (.tmp 36) 30 rfl 3 _ 1 8 Tryd.underlying30 Tryd.infoInt _ 0 [] rfl (by first | exact owns_new1 _ _ _ | exact owns_new2 _ _ _ _ | exact owns_new3 _ _ _ _) _ rfl ?_)
          | (refine step_appN w rfl (.tmp 37) (.tmp 39) 30 rfl 3 _ 1 8 Tryd.underlying30 Tryd.infoInt rfl (by decide) (by decide) _ 0 [] rfl (by repeat' (first | exact Ext.refl _ | assumption | refine Ext.drew ?_ | refine Ext.alloc ?_ _)) (by first | exact owns_new1 _ _ _ | exact owns_new2 _ _ _ _ | exact owns_new3 _ _ _ _) _ _ _ [.int .i64 n] rfl rfl (one_news (by simp)) (by simp [Value.oneCell']) (by omega) ?_; intro v2 w2 o2 E2 G2)
          | (refine step_app0 w.heap.size rfl (.tmp 40) (.tmp 43) 30 rfl 3 _ 1 8 Tryd.underlying30 Tryd.infoInt _ _ _ rfl o2 _ rfl ?_))
        all_goals go_wp2
        all_goals go_ret
        all_goals (rw [HF.out]; exact ⟨v2, rfl, by simpa [encI] using Reads.of_owns o2, Room.of_owns o2, E2⟩)
      | some ad =>
        have HT : Hid (∀ w', Ext w w' → ∀ j u, ((l.take k).flatMap encI)[j]? = some u → w'.cell? (ad.add j) = some u) := Lib.hid (by
          by_cases h0 : 0 < l.length
          · obtain ⟨_, b, off, ha, _⟩ := hv.at h0
            simp only [Option.some.injEq] at ha
            subst ha
            exact take_cells hv rfl k
          · obtain rfl : l = [] := List.eq_nil_of_length_eq_zero (by omega)
            intro w' _ j u hu
            simp at hu)
        have HD : Hid (∀ (ad : Addr) w', Ext w w' → ∀ j u, ((l.drop k).flatMap encI)[j]? = some u → w'.cell? (ad.add j) = some u) := Lib.hid (by
          intro ad w' _ j u hu
          rw [List.drop_eq_nil_of_le (by omega)] at hu
          simp at hu)
        by_cases hck : cap = k
        case pos =>
          go_wp2
          go_region_law (first
            | (refine step_appN w rfl (.tmp 33) (.tmp 36) 30 rfl 3 _ 1 8 Tryd.underlying30 Tryd.infoInt rfl (by decide) (by decide) _ 0 [] rfl (by repeat' (first | exact Ext.refl _ | assumption | refine Ext.drew ?_ | refine Ext.alloc ?_ _)) (by first | exact owns_new1 _ _ _ | exact owns_new2 _ _ _ _ | exact owns_new3 _ _ _ _) _ _ _ ((l.take k).flatMap encI) rfl (by simp [flat_length encI 1 encI_len]; omega) (HT.out _ (by repeat' (first | exact Ext.refl _ | assumption | refine Ext.drew ?_ | refine Ext.alloc ?_ _))) (flat_one encI_one _) (by omega) ?_; intro v1 w1 o1 E1 G1)
            | (refine step_appN w rfl (.tmp 37) (.tmp 39) 30 rfl 3 _ 1 8 Tryd.underlying30 Tryd.infoInt rfl (by decide) (by decide) _ _ _ rfl (by repeat' (first | exact Ext.refl _ | assumption | refine Ext.drew ?_ | refine Ext.alloc ?_ _)) (by first | exact o1 | exact Ext.owns ((Ext.refl _).alloc _) o1) _ _ _ [.int .i64 n] rfl rfl (one_news (by first | (simp; done) | exact grownBy_cell G1 (by simp) (by first | exact ne_up _ | exact ne_dn _))) (by simp [Value.oneCell']) (by omega) ?_; intro v2 w2 o2 E2 G2)
            | (refine step_appN w rfl (.tmp 40) (.tmp 43) 30 rfl 3 _ 1 8 Tryd.underlying30 Tryd.infoInt rfl (by decide) (by decide) _ _ _ rfl E2 o2 _ _ _ ((l.drop k).flatMap encI) rfl (by simp [flat_length encI 1 encI_len]) (HD.out _ _ E2) (flat_one encI_one _) (by omega) ?_; intro v3 w3 o3 E3 G3))
          all_goals go_wp2
          all_goals go_ret
          all_goals (rw [HF.out]; exact ⟨v3, rfl, put_reads hk (Reads.of_owns o3), Room.of_owns o3, E3⟩)
        go_wp2
        go_region_law (first
          | (refine step_appN w rfl (.tmp 33) (.tmp 36) 30 rfl 3 _ 1 8 Tryd.underlying30 Tryd.infoInt rfl (by decide) (by decide) _ 0 [] rfl (by repeat' (first | exact Ext.refl _ | assumption | refine Ext.drew ?_ | refine Ext.alloc ?_ _)) (by first | exact owns_new1 _ _ _ | exact owns_new2 _ _ _ _ | exact owns_new3 _ _ _ _) _ _ _ ((l.take k).flatMap encI) rfl (by simp [flat_length encI 1 encI_len]; omega) (HT.out _ (by repeat' (first | exact Ext.refl _ | assumption | refine Ext.drew ?_ | refine Ext.alloc ?_ _))) (flat_one encI_one _) (by omega) ?_; intro v1 w1 o1 E1 G1)
          | (refine step_appN w rfl (.tmp 37) (.tmp 39) 30 rfl 3 _ 1 8 Tryd.underlying30 Tryd.infoInt rfl (by decide) (by decide) _ _ _ rfl (by repeat' (first | exact Ext.refl _ | assumption | refine Ext.drew ?_ | refine Ext.alloc ?_ _)) (by first | exact o1 | exact Ext.owns ((Ext.refl _).alloc _) o1) _ _ _ [.int .i64 n] rfl rfl (one_news (by first | (simp; done) | exact grownBy_cell G1 (by simp) (by first | exact ne_up _ | exact ne_dn _))) (by simp [Value.oneCell']) (by omega) ?_; intro v2 w2 o2 E2 G2)
          | (refine step_appN w rfl (.tmp 40) (.tmp 43) 30 rfl 3 _ 1 8 Tryd.underlying30 Tryd.infoInt rfl (by decide) (by decide) _ _ _ rfl E2 o2 _ _ _ ((l.drop k).flatMap encI) rfl (by simp [flat_length encI 1 encI_len]) (HD.out _ _ E2) (flat_one encI_one _) (by omega) ?_; intro v3 w3 o3 E3 G3))
        all_goals go_wp2
        all_goals go_ret
        all_goals (rw [HF.out]; exact ⟨v3, rfl, put_reads hk (Reads.of_owns o3), Room.of_owns o3, E3⟩)
end Go.Proofs.YtefabcnifbnehaaDoor
