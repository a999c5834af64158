/- slices.Insert of one Version onto a row that the call owns; no condition beyond what is named. -/
import Derived.Test.YtankodjcccnjlaaCopyS
import Derived.Test.YtankodjcccnjlaaCopyNVersion
import Derived.Deep.RegionHeld3
import Derived.Lib.AppendZeros
import Derived.Lib.AppendZerosOnto
import Derived.Lib.Overlaps
namespace Go.Proofs.Ytankodjcccnjlaa
open Go.RowKit Go.Sort Go.Rd
theorem size_of_some {w : World} {g : Nat} {o : Obj} (h : w.heap[g]? = some o) : g < w.heap.size := (Array.getElem?_eq_some_iff.1 h).1
theorem size_kept {w w' : World} {g : Nat} {o : Obj} (hg : w'.heap[g]? = some o) (hk : ∀ k, k ≠ g → w'.heap[k]? = w.heap[k]?) : w.heap.size ≤ w'.heap.size := by
  have hn : w'.heap[w'.heap.size]? = none := Array.getElem?_eq_none (Nat.le_refl _)
  rw [hk _ (fun h => by rw [h, hg] at hn; cases hn)] at hn
  exact Array.getElem?_eq_none_iff.1 hn
theorem grown_kept {w0 w w' : World} {g : Nat} {n c : Nat} (h0 : Ext w0 w) (h1 : Ext w0 w') (hs : w.heap.size ≤ w'.heap.size) (hk : ∀ k, k < w.heap.size → k ≠ g → w'.heap[k]? = w.heap[k]?) : w.grownBy w' (Value.ownBlock (.slice (some ⟨g, 0, none⟩) n c)) :=
  ⟨h1.os.trans h0.os.symm, h1.tape.trans h0.tape.symm, h1.output.trans h0.output.symm, hs, fun k hk1 hk2 => hk k hk1 (fun h => hk2 (by rw [h]; rfl))⟩
theorem Try.sizeInsVersion : (Try.prog.info? 34).map (·.size) = some 2 := by kernel_rfl
set_option maxRecDepth 8000 in
set_option maxHeartbeats 4000000 in
theorem insertVersion_ok (w0 : World) (cs x : List Value) (n k vb : Nat) (v : Value) (w : World) (hE : Ext w0 w) (ho : w.ownsRow w0.heap.size 34 2 v n cs) (hk : k ≤ n) (hn : n ≤ 1048576) (hc1 : ∀ u ∈ cs, u.oneCell' = true) (hxl : x.length = 2) (hx1 : ∀ u ∈ x, u.oneCell' = true)
    (hb : Box w vb 34 x) (hvb : v.ownBlock ≠ some vb) :
    Calls Try.prog 25 #[v, .int .i64 k, .slice (some ⟨vb, 0, none⟩) 1 1] w fun e w' => ∃ v', e = .returned v' ∧ w'.ownsRow w0.heap.size 34 2 v' (n + 1) (cs.take (k * 2) ++ (x ++ cs.drop (k * 2))) ∧ Ext w0 w' ∧ w.grownBy w' v.ownBlock := by
  have mixed : Try.prog.follows .mixedOrders = true := by kernel_rfl
  have hcl := ho.1
  have HX := Lib.hid (cells2_at hb)
  by_cases hkn : k = n
  case pos =>
    subst hkn
    obtain ⟨a, cap, hs⟩ := (Reads.of_owns ho).shape
    subst hs
    have hcap := Room.of_owns ho _ _ _ rfl
    have HO := Lib.hid ho
    have e1 : cs.take (k * 2) ++ (x ++ cs.drop (k * 2)) = cs ++ x := by rw [List.take_of_length_le (by omega), List.drop_eq_nil_of_le (by omega), List.append_nil]
    rw [e1]
    have m1 : (k : Int) ≤ (cap : Int) := by omega
    have m2 : (0 : Int) ≤ (k : Int) := by omega
    clear e1 ho hvb hb
    go_enter Try.func25, Try.ntmps25
    go_wp2_with (at_builtin; refine wpl_appG w0 w rfl _ _ 28 rfl 34 _ 2 32 Try.underlying28 Try.infoXVersion rfl (by decide) (by decide) _ k cs hE HO.out _ 1 1 x rfl rfl (by rw [hxl]) HX.out hx1 (by omega) ?_)
    all_goals (intro v' w2 o2 E2 G2; go_wp2; go_ret; exact ⟨_, rfl, o2, E2, by first | exact G2 | ((have e : Value.ownBlock (.slice a k k) = Value.ownBlock (.slice a k cap) := by cases a <;> rfl); rw [← e]; exact G2)⟩)
  have hlt : k < n := by omega
  rcases ho.2 with ⟨rfl, rfl⟩ | ⟨g, cap, cur, rfl, hbg, hg, hnc, hcm, hcs, htake⟩
  · omega
  simp only [Value.ownBlock] at hvb
  have hgv : g ≠ vb := fun h => hvb (by rw [h])
  have hcell : ∀ j u, cs[j]? = some u → w.cell? ⟨g, j, none⟩ = some u := fun j u hu => by
    have hj := (List.getElem?_eq_some_iff.1 hu).1
    have := ho.cellAt j (by omega)
    rw [this]; exact hu
  have hdl : (cs.drop (k * 2)).length = (n - k) * 2 := by rw [List.length_drop, hcl, Nat.sub_mul]
  have htl : (cs.take (k * 2)).length = k * 2 := by
    have : k * 2 ≤ n * 2 := Nat.mul_le_mul_right _ hk
    rw [List.length_take]; omega
  have hd1 : ∀ u ∈ cs.drop (k * 2), u.oneCell' = true := fun u hu => hc1 u (List.mem_of_mem_drop hu)
  have m1 : (k : Int) ≤ (n : Int) := by omega
  have m2 : (0 : Int) ≤ (k : Int) := by omega
  have m3 : (k : Int) ≤ (cap : Int) := by omega
  have m4 : ¬ ((k : Int) = (n : Int)) := by omega
  have m5 : ¬ (cap = k) := by omega
  have m6 : k ≤ cap := by omega
  have s1 : IntKind.i64.wrap ((n : Int) + 1) = (n : Int) + 1 := by rw [IntKind.wrap_i64]; omega
  have s2 : IntKind.i64.wrap ((k : Int) + 1) = (k : Int) + 1 := by rw [IntKind.wrap_i64]; omega
  have t1 : ((k : Int) + 1).toNat = k + 1 := by omega
  have t2 : ((n : Int) + 1).toNat = n + 1 := by omega
  obtain ⟨i0, hi0, hz0, hzs, hzb⟩ := info_parts Try.infoXVersion
  by_cases hroom : cap < n + 1
  case pos =>
    have m7 : (cap : Int) < (n : Int) + 1 := by omega
    have hold : (Builtin.firstCells i0.size k (.slice (some ⟨g, 0, none⟩) k cap)).run Try.prog w.drew = .ok (cs.take (k * 2)).toArray w.drew := by
      rw [hzs]
      exact run_firstCells_some w.drew 2 k ⟨g, 0, none⟩ k cap _ htl (fun j u hj => by
        rw [add_addr, Nat.zero_add]
        rw [List.getElem?_take] at hj
        split at hj
        · exact hcell j u hj
        · cases hj)
    have hG : grownCap w (n + 1) cap 34 = grownCap w (n + 1) cap 34 := rfl
    obtain ⟨G, hG⟩ : ∃ G, G = grownCap w (n + 1) cap 34 := ⟨_, rfl⟩
    have hGn : n + 1 ≤ G := by rw [hG]; exact grownCap_ge w _ _ _
    have hGm : G ≤ maxLen := by rw [hG]; exact grownCap_le_maxLen w (n + 1) cap _ (by unfold maxLen; omega)
    have hkk : (n : Int) + 1 - (k : Int) = ((n + 1 - k : Nat) : Int) := by omega
    have hik : k + (n + 1 - k) = n + 1 := by omega
    have s3 : IntKind.i64.wrap ((n : Int) + 1 - (k : Int)) = (n : Int) + 1 - (k : Int) := by rw [IntKind.wrap_i64]; omega
    obtain ⟨ROW, hROW⟩ : ∃ ROW : List Value, ROW = cs.take (k * 2) ++ (Builtin.zeroCells (Value.cells (.agg #[.int .i64 0, .slice none 0 0])) (n + 1 - k)).toList ++ (Builtin.zeroCells (Value.cells (.agg #[.int .i64 0, .slice none 0 0])) (G - (n + 1))).toList := ⟨_, rfl⟩
    have hRl : ROW.length = G * 2 := by
      rw [hROW, List.length_append, List.length_append, htl, Array.length_toList, Array.length_toList, size_zeroCells, size_zeroCells]
      show k * 2 + (n + 1 - k) * 2 + (G - (n + 1)) * 2 = G * 2
      omega
    have hrz : ∀ ty, (Builtin.append_ #[28, 3] ty #[.slice (some ⟨g, 0, none⟩) k cap, .int .i64 ((n : Int) + 1 - (k : Int))]).run Try.prog w = .ok (.slice (some ⟨w.heap.size, 0, none⟩) (n + 1) G) (w.drew.alloc (.cells ROW.toArray 34)) := fun ty => by
      have h := Lib.run_append_grow_zeros w 28 3 ty 34 i0 _ .i64 .i64 Try.underlying28 Try.underlying3 hi0 hz0 (some ⟨g, 0, none⟩) k cap (cs.take (k * 2)) hold (n + 1 - k) (by omega) (by omega) (by omega) (by omega) (by rw [hzb]; omega) (by rw [hzb, hik]; exact growslice_fits hroom (by omega))
      rw [hik, ← hG] at h
      have e : (cs.take (k * 2) ++ (Builtin.zeroCells (Value.cells (.agg #[.int .i64 0, .slice none 0 0])) (n + 1 - k)).toList ++ (Builtin.zeroCells (Value.cells (.agg #[.int .i64 0, .slice none 0 0])) (G - (n + 1))).toList).toArray = (cs.take (k * 2)).toArray ++ Builtin.zeroCells (Value.cells (.agg #[.int .i64 0, .slice none 0 0])) (n + 1 - k) ++ Builtin.zeroCells (Value.cells (.agg #[.int .i64 0, .slice none 0 0])) (G - (n + 1)) := by apply Array.ext'; simp
      rw [hkk, hROW, e]
      exact h
    clear hkk hold hG
    have HR := Lib.hid hrz
    have HROW := Lib.hid hROW
    have m8 : ¬ (G = k) := by omega
    have m9 : ¬ (G = k + 1) := by omega
    have m10 : (k : Int) ≤ (G : Int) := by omega
    have m11 : (k : Int) + 1 ≤ (G : Int) := by omega
    have m12 : (k : Int) + 1 ≤ (n : Int) + 1 := by omega
    have m13 : (0 : Int) ≤ (k : Int) + 1 := by omega
    have E1 : Ext w0 (w.drew.alloc (.cells ROW.toArray 34)) := (Ext.drew hE).alloc _
    obtain ⟨w1, hw1⟩ : ∃ w1, w1 = w.drew.alloc (.cells ROW.toArray 34) := ⟨_, rfl⟩
    have EW : Ext w w1 := by rw [hw1]; exact ((Ext.refl w).drew).alloc _
    rw [← hw1] at E1 HR
    have hgr : w1.heap[w.heap.size]? = some (.cells ROW.toArray 34 (0, 0)) := by rw [hw1]; exact heap_alloc_new w.drew _
    have hX1 : Box w1 vb 34 x := Box.ext EW hb
    have HC1 : Hid (∀ j u, cs[j]? = some u → w1.cell? ⟨g, j, none⟩ = some u) := Lib.hid fun j u hu => EW.cell (hcell j u hu)
    have hwg : w0.heap.size ≤ w.heap.size := hE.size
    have hne : w.heap.size ≠ g := fun h => by have := (ho.lt g rfl).2; omega
    clear hrz hROW hcell htake hg hcs hb hw1 hz0 hzs hzb hi0
    go_enter Try.func25, Try.ntmps25
    go_wp2_with (first
      | (at_builtin; refine Lib.wpList_append_run _ rfl _ _ _ _ rfl _ _ rfl rfl _ _ (HR.out _) ?_)
      | (refine wpl_copyS w0 rfl (.tmp 43) (.tmp 44) 28 28 rfl 34 2 w.heap.size (k * 2) _ _ ⟨vb, 0, none⟩ 1 1 1 ROW 34 x Try.underlying28 Try.sizeInsVersion rfl rfl hgr (nmin (by omega)) (by rw [hxl]) (cells2_at hX1) (by rw [hxl, hRl]; omega) hx1 E1 hwg ?_))
    intro w2 hg2 E2 hk2
    have hC2 : Hid (∀ j u, (cs.drop (k * 2))[j]? = some u → w2.drew.cell? ((⟨g, k * 2, none⟩ : Addr).add j) = some u) := Lib.hid fun j u hu => by
      rw [add_addr]
      rw [List.getElem?_drop] at hu
      show w2.cell? _ = _
      rw [World.cell?_of_block (a := ⟨g, k * 2 + j, none⟩) (hk2 g (Ne.symm hne))]
      exact HC1.out _ _ hu
    have hll : (laid ROW (k * 2) x).length = G * 2 := by rw [laid_length _ _ _ (by rw [hxl, hRl]; omega), hRl]
    have HG2 : Hid (w2.drew.heap[w.heap.size]? = some (.cells (laid ROW (k * 2) x).toArray 34 (0, 0))) := Lib.hid hg2
    have E2' := E2.drew
    have HK2 : Hid (∀ j, j < w.heap.size → w2.drew.heap[j]? = w.heap[j]?) := Lib.hid fun j hj => (hk2 j (by omega)).trans (EW.block j hj)
    clear hg2 hk2 hgr hX1 HR
    go_upto_region 11 with fail
    go_region_held3 (fun _ => True) (trivial) (first
      | (refine step_copyS w0 rfl (.tmp 50) (.tmp 53) 28 28 rfl 34 2 w.heap.size ((k + 1) * 2) _ _ ⟨g, k * 2, none⟩ _ _ (n - k) (laid ROW (k * 2) x) 34 (cs.drop (k * 2)) Try.underlying28 Try.sizeInsVersion rfl rfl HG2.out (nmin (by omega)) hdl hC2.out (by rw [hdl, hll]; omega) hd1 E2' hwg ?_; intro w3 hg3 E3 hk3))
    go_wp2
    go_ret
    have hD : (n - k) * 2 + (k + 1) * 2 = (n + 1) * 2 := by omega
    refine ⟨_, rfl, owns_laid hwg hg3 hGn hGm ?_ ?_ ?_, E3, grown_kept hE E3 (Nat.le_of_lt (size_of_some hg3)) fun j hj _ => (hk3 j (by omega)).trans (HK2.out j hj)⟩
    · rw [laid_length _ _ _ (by rw [hdl, hll]; omega), hll]
    · rw [List.length_append, List.length_append, htl, hxl, hdl]; omega
    · have h := laid2_take ROW x (cs.drop (k * 2)) (k * 2) ((k + 1) * 2) (by rw [hxl]; omega) (by rw [hRl]; omega)
      rw [hdl, show (k + 1) * 2 + (n - k) * 2 = (n + 1) * 2 by omega] at h
      rw [h, HROW.out, List.append_assoc, List.take_append_of_le_length (by omega), List.take_of_length_le (by omega)]
  have hroom2 : n + 1 ≤ cap := by omega
  obtain ⟨L, hL⟩ : ∃ L, L = cur.toList := ⟨_, rfl⟩
  have hLl : L.length = cap * 2 := by rw [hL, Array.length_toList, hcs]
  have hLt : L.take (n * 2) = cs := by rw [hL]; exact htake
  have HL := Lib.hid hLt
  have hgr : w.heap[g]? = some (.cells L.toArray 34 (0, 0)) := by rw [hL, Array.toArray_toList]; exact hg
  have hov : ∀ lb cb, (callFunc 36 #[.slice (some ⟨vb, 0, none⟩) 1 1, .slice (some ⟨g, (k + 1) * 2, none⟩) lb cb]).run Try.prog w = .ok (.value (.bool false)) w := fun lb cb => by
    rw [run_callFunc_extern Try.func36 (by kernel_rfl) (by kernel_rfl) (by kernel_rfl) (e := Extern.SlicesOverlaps.overlaps #[28, 28] #[4]) (by kernel_rfl),
      Lib.run_overlaps_apart w 28 4 34 Try.underlying28 2 (fun w => by simp [sizeOf, typeInfo, hi0, hzs]) ⟨vb, 0, none⟩ ⟨g, (k + 1) * 2, none⟩ 1 1 lb cb (Ne.symm hgv) 34 34 x.length L.length (by unfold Box at hb; simp [World.shape?, hb]) (by simp [World.shape?, hgr]) (by omega) (hb.frozen 0) (hb.frozen x.length)]
    rfl
  have q1 : ¬ ((cap : Int) < (n : Int) + 1) := by omega
  have q2 : ¬ (cap = k + 1) := by omega
  have q3 : (n : Int) + 1 ≤ (cap : Int) := by omega
  have q4 : n + 1 ≤ cap := hroom2
  have q5 : (k : Int) + 1 ≤ (n : Int) + 1 := by omega
  have q6 : (0 : Int) ≤ (k : Int) + 1 := by omega
  have q7 : (0 : Int) ≤ (n : Int) + 1 := by omega
  have q8 : (k : Int) ≤ (n : Int) + 1 := by omega
  have hC1 : Hid (∀ j u, (cs.drop (k * 2))[j]? = some u → w.drew.cell? ((⟨g, k * 2, none⟩ : Addr).add j) = some u) := Lib.hid fun j u hu => by
    rw [add_addr]
    rw [List.getElem?_drop] at hu
    exact hcell _ _ hu
  have HG := Lib.hid (show w.drew.heap[g]? = some (.cells L.toArray 34 (0, 0)) from hgr)
  have HOV := Lib.hid hov
  have E0 := hE.drew
  have hll : (laid L ((k + 1) * 2) (cs.drop (k * 2))).length = cap * 2 := by rw [laid_length _ _ _ (by rw [hdl, hLl]; omega), hLl]
  have HX1 := Lib.hid hb
  clear hcell htake hg hcs hb hL hgr hov hz0 hzs hzb hi0 hLt
  go_enter Try.func25, Try.ntmps25
  go_wp2_with (simp only [HOV.out])
  go_region_held3 (fun _ => True) (trivial) (first
      | (refine step_copyS w0 rfl (.tmp 73) (.tmp 76) 28 28 rfl 34 2 g ((k + 1) * 2) _ _ ⟨g, k * 2, none⟩ _ _ (n - k) L 34 (cs.drop (k * 2)) Try.underlying28 Try.sizeInsVersion rfl rfl HG.out (nmin (by omega)) hdl hC1.out (by rw [hdl, hLl]; omega) hd1 E0 hbg ?_; intro w2 hg2 E2 hk2))
  have hX2 : Box w2 vb 34 x := by unfold Box; rw [hk2 vb (Ne.symm hgv)]; exact HX1.out
  have HG2 := Lib.hid hg2
  have HK2 : Hid (∀ j, j ≠ g → w2.heap[j]? = w.drew.heap[j]?) := Lib.hid hk2
  clear hg2 hk2
  go_wp2_with (refine wpl_copyS w0 rfl (.tmp 80) (.tmp 81) 28 28 rfl 34 2 g (k * 2) _ _ ⟨vb, 0, none⟩ 1 1 1 (laid L ((k + 1) * 2) (cs.drop (k * 2))) 34 x Try.underlying28 Try.sizeInsVersion rfl rfl HG2.out (nmin (by omega)) (by rw [hxl]) (cells2_at hX2) (by rw [hxl, hll]; omega) hx1 E2 hbg ?_)
  intro w3 hg3 E3 hk3
  go_wp2
  go_ret
  refine ⟨_, rfl, owns_laid hbg hg3 hroom2 hcm ?_ ?_ ?_, E3, grown_kept hE E3 (size_kept hg3 fun j hj => (hk3 j hj).trans (HK2.out j hj)) fun j _ hj => (hk3 j hj).trans (HK2.out j hj)⟩
  · rw [laid_length _ _ _ (by rw [hxl, hll]; omega), hll]
  · rw [List.length_append, List.length_append, htl, hxl, hdl]; omega
  · have h := laid2r_take L x (cs.drop (k * 2)) (k * 2) ((k + 1) * 2) (by rw [hxl]; omega) (by rw [hLl]; omega)
    rw [hdl, show (k + 1) * 2 + (n - k) * 2 = (n + 1) * 2 by omega] at h
    rw [h, ← HL.out, List.take_take, Nat.min_eq_left (by omega)]
end Go.Proofs.Ytankodjcccnjlaa
