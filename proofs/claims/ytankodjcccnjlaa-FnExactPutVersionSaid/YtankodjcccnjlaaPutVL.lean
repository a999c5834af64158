/- l8Own: a version with rules of its own; no condition beyond the length that is named. -/
import Derived.Test.YtankodjcccnjlaaOwnX
import Derived.Test.YtankodjcccnjlaaFlatRule
import Derived.Test.YtankodjcccnjlaaNestVersion
import Derived.Deep.RegionHeld3
namespace Go.Proofs.Ytankodjcccnjlaa
open Go.RowKit Go.Sort Go.Rd
theorem step_app0W {P : Program} {ops : Array Oper} {o : Oper} {a : Act} {w : World} {K : Act → World → Prop} {Q : Exit → Act → World → Prop} {E : Prop} (base : Nat)
    (hg : o.guard = none) (s x : Operand) (t : TypeId) (ho : o.op = .call { callee := .builtin .append, args := #[s, x], argTypes := #[t, t] })
    (e : TypeId) (z : Value) (size bytes : Nat) (ht : P.underlying t = some (.slice e)) (hinfo : (P.info? e).map (fun i => (i.zero, i.size, i.bytes)) = some (some z, size, bytes))
    (v : Value) (n : Nat) (xs : List Value) (hs : a.eval s = v) (hown : w.ownsRow base e size v n xs)
    (c : Nat) (hx : a.eval x = .slice none 0 c) (hK : ∀ w', w' = w → K (a.put o.dst v) w') :
    if Region.wanted o (yielded ops a.tmps) = true then Oper.wp P o a w K Q else E :=
  step_app0 base hg s x t ho e z size bytes ht hinfo v n xs hs hown c hx (hK w rfl)
set_option maxRecDepth 8000 in
set_option maxHeartbeats 1000000 in
theorem l8OwnC_ok (fr : Int) (n : Nat) (cs : List Value) (sv : Value) (w : World) (hv : Reads w 4 sv n cs) (h1 : ∀ u ∈ cs, u.oneCell' = true) (hl : n ≤ 1048576) :
    Calls Try.prog 17 #[.agg #[.int .i64 fr, sv]] w fun e w' => ∃ v2, e = .returned (.agg #[.int .i64 fr, v2]) ∧ w'.ownsRow (w.heap.size + 1 + 1) 48 4 v2 n cs ∧ Ext w w' := by
  have mixed : Try.prog.follows .mixedOrders = true := by kernel_rfl
  obtain ⟨a, cap, hs⟩ := Reads.shape hv
  subst hs
  have hcl := hv.1
  obtain ⟨wB, hwB⟩ : ∃ x, x = w.alloc (.cells #[.int .i64 fr, .slice a n cap] 34) := ⟨_, rfl⟩
  have sB : wB.heap.size = w.heap.size + 1 := by rw [hwB]; simp
  obtain ⟨w4, hw4⟩ : ∃ x, x = wB.alloc (.cells #[.int .i64 0, .slice none 0 0] 34) := ⟨_, rfl⟩
  have s4 : w4.heap.size = w.heap.size + 1 + 1 := by rw [hw4]; simp [sB]
  have E4 : Ext w w4 := by rw [hw4, hwB]; exact ((Ext.refl w).alloc _).alloc _
  have b0 : w4.cell? ⟨w.heap.size, 0, none⟩ = some (.int .i64 fr) := by rw [hw4]; exact Ext.cell ((Ext.refl wB).alloc _) (by rw [hwB]; simp)
  have b1 : w4.cell? ⟨w.heap.size, 1, none⟩ = some (.slice a n cap) := by rw [hw4]; exact Ext.cell ((Ext.refl wB).alloc _) (by rw [hwB]; simp)
  have HB : Hid (Box w4 (w.heap.size + 1) 34 [.int .i64 0, .slice none 0 0]) := Lib.hid (Box.of_new hw4 sB)
  have HS4 : Hid (∀ w', Ext w4 w' → (w'.cell? ⟨w.heap.size, 0, none⟩ = some (.int .i64 fr) ∧ w'.cell? ⟨w.heap.size, 1, none⟩ = some (.slice a n cap))) := Lib.hid fun w' h => ⟨h.cell b0, h.cell b1⟩
  have HS5 : Hid (∀ w', Ext w4 w' → ∀ u0 u1, (((w'.setCell ⟨w.heap.size + 1, 0, none⟩ u0).setCell ⟨w.heap.size + 1, 1, none⟩ u1).cell? ⟨w.heap.size, 0, none⟩ = some (.int .i64 fr) ∧ ((w'.setCell ⟨w.heap.size + 1, 0, none⟩ u0).setCell ⟨w.heap.size + 1, 1, none⟩ u1).cell? ⟨w.heap.size, 1, none⟩ = some (.slice a n cap))) := Lib.hid fun w' h u0 u1 => by
    have := HS4.out w' h
    rw [World.cell?_setCell_other _ _ _ _ (by simp), World.cell?_setCell_other _ _ _ _ (by simp), World.cell?_setCell_other _ _ _ _ (by simp), World.cell?_setCell_other _ _ _ _ (by simp)]
    exact this
  have hle : w.heap.size ≤ w.heap.size + 1 := by omega
  have hbl : w.heap.size + 1 < w4.heap.size := by omega
  have HSZ := Lib.hid s4
  clear b0 b1 s4
  rw [← HSZ.out]
  cases a with
  | none =>
    have h0 : n = 0 := by
      rcases Nat.eq_zero_or_pos n with h0 | h0
      · exact h0
      · obtain ⟨_, _, _, hbb, _⟩ := hv.at h0
        cases hbb
    subst h0
    obtain rfl : cs = [] := List.eq_nil_of_length_eq_zero (by omega)
    clear hv hcl
    go_enter Try.func17, Try.ntmps17
    go_upto_region 1 with fail
    rw [← hwB, ← hw4]
    clear hwB hw4 sB
    go_region_held3 (fun w' => w'.cell? ⟨w.heap.size, 0, none⟩ = some (.int .i64 fr) ∧ w'.cell? ⟨w.heap.size, 1, none⟩ = some (.slice none 0 cap)) (first | (with_reducible refine HS5.out _ ?_ _ _; (repeat' (first | with_reducible exact Ext.refl _ | with_reducible assumption | with_reducible apply Ext.drew | with_reducible apply Ext.alloc)); done) | (refine HS4.out _ ?_; (repeat' (first | with_reducible exact Ext.refl _ | with_reducible assumption | with_reducible apply Ext.drew | with_reducible apply Ext.alloc)); done)) (first
      | (refine step_app0W w4.heap.size rfl (.tmp 5) (.tmp 7) 32 rfl 48 _ 4 32 Try.underlying32 Try.infoIRule (.slice (some ⟨_, 0, none⟩) 0 0) 0 [] rfl (Box.owns (by (repeat' (first | with_reducible exact Box.hereI (by first | omega | (simp; done) | (simp; omega)) | with_reducible apply Box.under | with_reducible apply Box.drew)); done) (by omega)) _ rfl ?_; intro w7 hw7; have E7 : Ext w4 w7 := (by rw [hw7]; exact ((Ext.refl w4).alloc (.cells #[] 48)).drew); have B7 := Box.ext E7 HB.out; have C0 := B7.cell 0 rfl; have C1 := B7.cell 1 rfl; have F0 := B7.frozen 0; have F1 := B7.frozen 1; have o3 : w7.ownsRow w4.heap.size 48 4 (.slice (some ⟨w4.heap.size, 0, none⟩) 0 0) 0 [] := (by rw [hw7]; exact Box.owns (sz := 4) (Box.drew (Box.here (w := w4) (e := 48) (cs := []))) (Nat.le_refl _)); clear hw7))
    go_wp2
    (try simp only [Exit.inBlock, Exit.then])
    refine bodyPost_ret (v := .agg #[.int .i64 fr, .slice (some ⟨w4.heap.size, 0, none⟩) 0 0]) (by simp [results, Try.results17, go_sem, *]) rfl ⟨.slice (some ⟨w4.heap.size, 0, none⟩) 0 0, rfl, ?_, ?_⟩
    · exact owns_setCell (owns_setCell (o3) (p := ⟨w.heap.size + 1, 0, none⟩) hbl _) (p := ⟨w.heap.size + 1, 1, none⟩) hbl _
    · exact ((Ext.trans E4 E7).setCell hle _).setCell hle _
  | some ad =>
    have hc : ∀ w', Ext w4 w' → ∀ j u, cs[j]? = some u → w'.cell? (ad.add j) = some u := by
      intro w' hE j u hu
      have hj := (List.getElem?_eq_some_iff.1 hu).1
      obtain ⟨_, b, off, ha, hc⟩ := hv.at (by omega)
      simp only [Option.some.injEq] at ha
      subst ha
      have := hc j (by omega)
      rw [hu] at this
      rw [add_addr]
      exact (Ext.trans E4 hE).cell this
    have HC := Lib.hid hc
    clear hc hv
    go_enter Try.func17, Try.ntmps17
    go_upto_region 1 with fail
    rw [← hwB, ← hw4]
    clear hwB hw4 sB
    go_region_held3 (fun w' => w'.cell? ⟨w.heap.size, 0, none⟩ = some (.int .i64 fr) ∧ w'.cell? ⟨w.heap.size, 1, none⟩ = some (.slice (some ad) n cap)) (first | (with_reducible refine HS5.out _ ?_ _ _; (repeat' (first | with_reducible exact Ext.refl _ | with_reducible assumption | with_reducible apply Ext.drew | with_reducible apply Ext.alloc)); done) | (refine HS4.out _ ?_; (repeat' (first | with_reducible exact Ext.refl _ | with_reducible assumption | with_reducible apply Ext.drew | with_reducible apply Ext.alloc)); done)) (first
      | (refine step_appS w4 rfl (.tmp 5) (.tmp 7) 32 rfl 48 _ 4 32 Try.underlying32 Try.infoIRule rfl (by decide) (by decide) (.slice (some ⟨_, 0, none⟩) 0 0) 0 [] rfl (by (repeat' (first | with_reducible exact Ext.refl _ | with_reducible assumption | with_reducible apply Ext.drew | with_reducible apply Ext.alloc)); done) (Box.owns (by (repeat' (first | with_reducible exact Box.hereI (by first | omega | (simp; done) | (simp; omega)) | with_reducible apply Box.under | with_reducible apply Box.drew)); done) (by omega)) ad n cap cs rfl hcl (HC.out _ (by (repeat' (first | with_reducible exact Ext.refl _ | with_reducible assumption | with_reducible apply Ext.drew | with_reducible apply Ext.alloc)); done)) h1 (by omega) n (by omega) ?_; intro a9 c9 w7 o3 E7 G7; have B7 := Box.ext E7 HB.out; have C0 := B7.cell 0 rfl; have C1 := B7.cell 1 rfl; have F0 := B7.frozen 0; have F1 := B7.frozen 1))
    go_wp2
    (try simp only [Exit.inBlock, Exit.then])
    refine bodyPost_ret (v := .agg #[.int .i64 fr, .slice a9 n c9]) (by simp [results, Try.results17, go_sem, *]) rfl ⟨.slice a9 n c9, rfl, ?_, ?_⟩
    · exact owns_setCell (owns_setCell ((by simpa using o3)) (p := ⟨w.heap.size + 1, 0, none⟩) hbl _) (p := ⟨w.heap.size + 1, 1, none⟩) hbl _
    · exact ((Ext.trans E4 E7).setCell hle _).setCell hle _
theorem l8Own_ok (r : Ver) (sv : Value) (w : World) (hv : Ver.At w (r, sv)) (hl : r.rs.length ≤ 1048576) :
    Calls Try.prog 17 #[.agg #[.int .i64 r.fr, sv]] w fun e w' => ∃ v2, e = .returned (.agg #[.int .i64 r.fr, v2]) ∧ w'.ownsRow (w.heap.size + 1 + 1) 48 4 v2 r.rs.length (r.rs.flatMap Rul.enc) ∧ Ext w w' :=
  l8OwnC_ok r.fr r.rs.length _ sv w hv (flat_one Rul.one _) hl
end Go.Proofs.Ytankodjcccnjlaa
