/- What SizeByFormat computes, the program's and the reference's; no condition beyond the lengths and rooms that are named. -/
import Derived.Test.YtefabcnifbnehaaDoorCopL
import Derived.Test.YtefabcnifbnehaaDoorAppR
import Derived.Test.YtefabcnifbnehaaDoorAppK
import Derived.Deep.RegionWith
import Derived.OwnWalk
namespace Go.Rd
open Go.RowKit Go.Sort
theorem made_ints (n : Nat) : (madeCells #[Value.int .i64 0] n).toList = (List.replicate n (0 : Int)).flatMap encI := by
  apply List.ext_getElem?
  intro i
  have e : (List.replicate n (0 : Int)).flatMap encI = List.replicate n (Value.int .i64 0) := by
    induction n with
    | zero => rfl
    | succ n ih => rw [List.replicate_succ, List.flatMap_cons, ih, List.replicate_succ]; rfl
  rw [e, List.getElem?_replicate]
  simp only [madeCells]
  by_cases h : i < n
  · simp [h, Nat.mod_one]
  · simp [h]
theorem Box.of_full {w : World} {base g n : Nat} {e : TypeId} {cs : List Value} (h : w.ownsRow base e 1 (.slice (some ⟨g, 0, none⟩) n n) n cs) : Box w g e cs := by
  rcases h.2 with ⟨h', _⟩ | ⟨g', cap', cur, h', hb, hg, _, _, hs, ht⟩
  · simp at h'
  · simp only [Value.slice.injEq, Option.some.injEq, Addr.mk.injEq, and_true, true_and] at h'
    obtain ⟨rfl, rfl⟩ := h'
    have : cur = cs.toArray := by
      rw [← ht, List.take_of_length_le (by simp [hs])]
    unfold Box
    rw [hg, this]
theorem Box.full {w : World} {base g n : Nat} {e : TypeId} {cs : List Value} (h : Box w g e cs) (hl : cs.length = n * 1) (hb : base ≤ g) (hm : n ≤ maxLen) : w.ownsRow base e 1 (.slice (some ⟨g, 0, none⟩) n n) n cs :=
  ⟨hl, .inr ⟨g, n, cs.toArray, rfl, hb, h, Nat.le_refl _, hm, by simpa using hl, by
    have h2 : cs.length = n := by simpa using hl
    simp only [Nat.mul_one]
    exact List.take_of_length_le (Nat.le_of_eq h2)⟩⟩
theorem set_flat (l : List Int) (j : Nat) (x : Int) : (l.flatMap encI).set j (.int .i64 x) = (l.set j x).flatMap encI := by
  induction l generalizing j with
  | nil => rfl
  | cons y l ih =>
    cases j with
    | zero => rfl
    | succ j =>
      have := ih j
      simp only [List.flatMap_cons, encI, List.cons_append, List.nil_append, List.set_cons_succ] at this ⊢
      rw [this]
theorem get_flat (l : List Int) (j : Nat) {x : Int} (h : l[j]? = some x) : (l.flatMap encI)[j]? = some (.int .i64 x) := by
  have := flat_some encI_len h (j := 0) (u := .int .i64 x) rfl
  simpa using this
end Go.Rd
namespace Go.Proofs.YtefabcnifbnehaaDoor
open Go.RowKit Go.Sort Go.Rd
set_option maxHeartbeats 4000000 in
theorem specSizeByFormat_ok (l : List Fmt) (cs : List Cpy) (v vc : Value) (w : World) (hv : Fmt.Rd w v l) (hc : Reads w 4 vc cs.length (cs.flatMap Cpy.enc)) (hl : l.length ≤ 1048576) (hll : ∀ p ∈ l, p.rd.length ≤ 1048576) (hnl : ∀ p ∈ l, p.na.length ≤ maxLen) (hcl : cs.length ≤ 1048576) :
    Calls Tryd.prog 37 #[v, vc] w (RetReadB w 1 (sizeL l cs).length ((sizeL l cs).flatMap encI) (goodCs l cs)) := by
  have mixed : Tryd.prog.follows .mixedOrders = true := by kernel_rfl
  have e0 : Ext w (w.alloc (.cells #[] 3)) := (Ext.refl w).alloc _
  obtain ⟨a, cap, rfl⟩ := hc.shape
  obtain ⟨av, capv, rfl⟩ := hv.shape
  obtain ⟨N, hN⟩ : ∃ N, sizeL l cs = N := ⟨_, rfl⟩
  have HY := Lib.hid (fun h => hN.symm.trans (sizeL_yes (l := l) (cs := cs) h))
  have HF := Lib.hid (fun h => hN.symm.trans (sizeL_no (l := l) (cs := cs) h))
  rw [hN]
  clear hN
  obtain ⟨ok, hok⟩ : ∃ b, goodCs l cs = b := ⟨_, rfl⟩
  rw [hok]
  have HOK := Lib.hid hok
  clear hok
  go_enter Tryd.func37, Tryd.ntmps37
  go_wp2_with fail
  refine (l7Copies_ok l cs _ _ _ (hv.mono e0) (hc.mono e0) hl hll hnl hcl).mono ?_
  rintro e w1 ⟨rfl, E1⟩
  have E1' := Ext.trans e0 E1
  rw [HOK.out]
  cases ok
  case false =>
    obtain rfl := HF.out HOK.out
    go_wp2
    go_ret2
    exact ⟨_, rfl, (OutR.empty w w 3 1 _).reads.mono E1', E1'⟩
  have h1 := HOK.out
  have HN := Lib.hid (HY.out h1)
  have HB := Lib.hid (fun id k => sumF_bound h1 id k)
  have HG := Lib.hid h1
  have hl10 := (goodW_spec (goodCs_parts h1).1).2
  have hc15 := (goodCs_parts h1).2.1
  clear h1 HY HF
  go_wp2
  go_loopw [6, 7] (fun out i wr => ∃ k : Nat, k ≤ l.length ∧ i = .int .i64 k ∧ OutR w1 wr 3 1 out (sizeS (l.take k) cs cs.length).length ((sizeS (l.take k) cs cs.length).flatMap encI) ∧ Ext w1 wr) (fun _ i _ => l.length - (intOf i).toNat)
  case atStart => exact ⟨0, Nat.zero_le _, rfl, by simpa [sizeS] using OutR.empty _ _ _ _ _, Ext.refl _⟩
  case round =>
    obtain ⟨wo, hwo⟩ : ∃ w', w' = wr := ⟨_, rfl⟩
    subst hwo
    obtain ⟨k, hk, rfl, ho, hE⟩ := hrel
    have hE' := Ext.trans E1' hE
    by_cases hlt : k < l.length
    · obtain ⟨f, hf⟩ := get_of_lt hlt
      have HS : Hid (sizeS (l.take (k + 1)) cs cs.length = sizeS (l.take k) cs cs.length ++ [sumF cs cs.length f.id]) := Lib.hid (by unfold sizeS; rw [List.take_add_one, hf]; simp)
      have hslen : (sizeS (l.take k) cs cs.length).length ≤ 10 := by simp only [sizeS, List.length_map, List.length_take]; omega
      obtain ⟨b, off, rfl⟩ := Fmt.Rd.addr (hv.mono hE') (by omega)
      have HFF := Lib.hid hf
      have n3 : (k : Int) < (l.length : Int) := by omega
      clear hf
      go_wp2
      go_loopw [8, 9] (fun sm i wr => ∃ m : Nat, m ≤ cs.length ∧ i = .int .i64 m ∧ sm = .int .i64 (sumF cs m f.id) ∧ Ext wo wr) (fun _ i _ => cs.length - (intOf i).toNat)
      case atStart => exact ⟨0, Nat.zero_le _, rfl, by rw [sumF_zero], Ext.refl _⟩
      case round =>
        obtain ⟨m, hm, rfl, rfl, F⟩ := hrel
        have hE3 := Ext.trans hE' F
        by_cases hltm : m < cs.length
        · obtain ⟨b2, off2, rfl, hcc⟩ := Reads.elems Cpy.enc_len (hc.mono hE3) (by omega)
          obtain ⟨x, hx⟩ := get_of_lt hltm
          obtain ⟨_, _, y0, _, _, _, _⟩ := Fmt.Rd.cells (hv.mono hE3) HFF.out
          have c1 := hcc m _ hx 1 _ rfl
          have c2 := hcc m _ hx 2 _ rfl
          have q1 := cell_in_class c1
          have q0 := cell_in_class y0
          have HX := Lib.hid hx
          obtain ⟨bm1, bm2⟩ := HB.out f.id m
          have hxs := ((goodCs_parts HG.out).2.2 x (List.mem_of_getElem? hx)).2.2.1
          obtain ⟨A, hA⟩ : ∃ A, sumF cs m f.id = A := ⟨_, rfl⟩
          have HAA := Lib.hid hA
          rw [hA] at bm1 bm2 ⊢
          have n1 : (m : Int) < (cs.length : Int) := by omega
          obtain ⟨s1, s2⟩ := hxs
          clear hcc hx hA
          go_upto_region 11 with fail
          go_cut [38] (fun c wx => c = .bool (x.fo == f.id) ∧ Ext wr wx)
          case first =>
            refine wp_region_quiet_below mixed (by kernel_rfl) ?_
            repeat (first | go_big_quiet_step (fail) | quiet_step (fail))
            refine wpQuiet_nil ?_
            intro _ hw'
            obtain ⟨⟨dq, osq⟩, hw''⟩ := hw'
            subst hw''
            clear q0 q1
            go_wp2
            go_meet
            exact ⟨rfl, (Ext.refl wr).regrown dq osq⟩
          case rest =>
          obtain ⟨rfl, F2⟩ := hcut
          have c2 := F2.cell c2
          have F3 := Ext.trans F F2
          clear q0 q1 c1 y0
          cases hb : (x.fo == f.id)
          case false =>
            have HK := Lib.hid ((sumF_no HX.out hb).trans HAA.out)
            clear hb
            go_wp2
            go_roundw
            case rel => exact ⟨m + 1, by omega, by go_num, by rw [HK.out], F3⟩
            case measure => simp [intOf]; omega
          have HK := Lib.hid ((sumF_yes HX.out hb).trans (by rw [HAA.out]))
          clear hb
          go_wp2
          go_roundw
          case rel => exact ⟨m + 1, by omega, by go_num, by first | rw [HK.out] | (rw [HK.out]; go_num), F3⟩
          case measure => simp [intOf]; omega
        · have HE : Hid (sumF cs m f.id = sumF cs cs.length f.id) := Lib.hid (by rw [show m = cs.length by omega])
          rw [HE.out]
          have hE4 := Ext.trans hE F
          have ho4 := OutR.ext F ho
          obtain ⟨A, hA⟩ : ∃ A, sumF cs cs.length f.id = A := ⟨_, rfl⟩
          have HAA := Lib.hid hA
          rw [hA]
          clear hA
          go_wp2_with (at_builtin; refine wpl_appendR w1 _ rfl _ _ 30 rfl 3 _ 1 8 Tryd.underlying30 Tryd.infoInt rfl (by decide) (by decide) _ _ _ hE4 ho4 ?c1 [.int .i64 (A)] rfl rfl rfl (encI_one _) ?_)
          case c1 => omega
          intro v' w6 o6 E6 _
          go_wp2
          go_roundw
          case rel => exact ⟨k + 1, by omega, by go_num, by rw [HS.out, HAA.out]; simpa [encI] using o6, E6⟩
          case measure => simp [intOf]; omega
    · have HE : Hid (sizeS (l.take k) cs cs.length = N) := Lib.hid (by rw [List.take_of_length_le (by omega)]; exact HN.out.symm)
      rw [HE.out] at ho
      go_wp2
      go_ret2
      exact ⟨_, rfl, ho.reads, hE'⟩
set_option maxHeartbeats 4000000 in
theorem sizeByFormat_ok (l : List Fmt) (cs : List Cpy) (v vc : Value) (w : World) (hv : Fmt.Rd w v l) (hc : Reads w 4 vc cs.length (cs.flatMap Cpy.enc)) (hcap : Room v) (hl : l.length ≤ 1048576) (hll : ∀ p ∈ l, p.rd.length ≤ 1048576) (hnl : ∀ p ∈ l, p.na.length ≤ maxLen) (hcl : cs.length ≤ 1048576) :
    Calls Tryd.prog 38 #[v, vc] w (RetOwnB w 3 1 (sizeL l cs).length ((sizeL l cs).flatMap encI) (goodCs l cs)) := by
  obtain ⟨a, cap, rfl⟩ := hc.shape
  obtain ⟨av, capv, rfl⟩ := hv.shape
  obtain ⟨N, hN⟩ : ∃ N, sizeL l cs = N := ⟨_, rfl⟩
  have HY := Lib.hid (fun h => hN.symm.trans (sizeL_yes (l := l) (cs := cs) h))
  have HF := Lib.hid (fun h => hN.symm.trans (sizeL_no (l := l) (cs := cs) h))
  rw [hN]
  clear hN
  obtain ⟨ok, hok⟩ : ∃ b, goodCs l cs = b := ⟨_, rfl⟩
  rw [hok]
  have HOK := Lib.hid hok
  clear hok
  obtain ⟨i0, hi, hz0, hz1, hz2⟩ := info_parts Tryd.infoInt
  go_enter Tryd.func38, Tryd.ntmps38
  go_wp2_with fail
  refine (areCopies_ok l cs _ _ _ hv hc hcap hl hll hnl hcl).mono ?_
  rintro e w1 ⟨rfl, E1⟩
  rw [HOK.out]
  cases ok
  case false =>
    obtain rfl := HF.out HOK.out
    go_wp2
    go_ret2
    exact ⟨_, rfl, World.ownsRow_nil _ _ _ _, E1⟩
  have h1 := HOK.out
  have HN := Lib.hid (HY.out h1)
  have HB := Lib.hid (fun id k => sumF_bound h1 id k)
  have HG := Lib.hid h1
  have hl10 := (goodW_spec (goodCs_parts h1).1).2
  have hc15 := (goodCs_parts h1).2.1
  have HM := Lib.hid (show l.length ≤ maxLen by unfold maxLen; omega)
  have HZ : Hid ((List.replicate l.length (0 : Int)) = sizeS l cs 0) := Lib.hid (by unfold sizeS; simp only [sumF_zero]; rw [List.map_const'])
  clear h1 HY HF
  go_wp2_with (at_make; refine wpList_make_full _ rfl _ _ 30 rfl w1.heap.size 3 i0 (.int .i64 0) 1 Tryd.underlying30 hi hz0 hz1 _ _ _ _ l.length rfl rfl rfl rfl ?c1 ?c2 ?c3 ?_)
  case c1 => rw [hz2]; omega
  case c2 => exact HM.out
  case c3 => exact Nat.le_refl _
  intro w2 hown hgrow
  have E2 : Ext w1 w2 := ext_grownBy (Ext.refl w1) hgrow (by simp)
  rw [made_ints, HZ.out] at hown
  have hbox := Box.of_full hown
  clear hown hgrow
  go_wp2
  go_loopw [18] (fun i wr => ∃ k : Nat, k ≤ cs.length ∧ i = .int .i64 k ∧ Box wr w1.heap.size 3 ((sizeS l cs k).flatMap encI) ∧ Ext w1 wr) (fun i _ => cs.length - (intOf i).toNat)
  case atStart => exact ⟨0, Nat.zero_le _, rfl, hbox, E2⟩
  case round =>
    obtain ⟨k, hk, rfl, hbx, hE⟩ := hrel
    have hE' := Ext.trans E1 hE
    by_cases hlt : k < cs.length
    · obtain ⟨b2, off2, rfl, hcc⟩ := Reads.elems Cpy.enc_len (hc.mono hE') (by omega)
      obtain ⟨⟨p1, p2, p3, p4⟩, hx⟩ := get_of_lt hlt
      have c0 := hcc k _ hx 0 _ rfl
      have c1 := hcc k _ hx 1 _ rfl
      have c2 := hcc k _ hx 2 _ rfl
      have c3 := hcc k _ hx 3 _ rfl
      simp only [Nat.add_zero] at c0
      obtain ⟨_, hat, hsz, _⟩ := (goodCs_parts HG.out).2.2 _ (List.mem_of_getElem? hx)
      simp only at hat hsz
      obtain ⟨s1, s2⟩ := hsz
      obtain ⟨j, f, hj, hf, _⟩ := atF_mem hat
      have hjl := (List.getElem?_eq_some_iff.1 hf).1
      obtain ⟨z, hzz⟩ : ∃ z, (sizeS l cs k)[j]? = some z := get_of_lt (by unfold sizeS; rw [List.length_map]; exact hjl)
      have hzb : 0 ≤ z ∧ z ≤ 1000000 * (k : Int) := by
        unfold sizeS at hzz
        rw [List.getElem?_map, hf] at hzz
        simp only [Option.map_some, Option.some.injEq] at hzz
        rw [← hzz]; exact HB.out _ _
      obtain ⟨z1, z2⟩ := hzb
      have HST := Lib.hid (sizeS_step HG.out hx hj hzz)
      have HSF := Lib.hid (get_flat _ _ hzz)
      have HFS := Lib.hid (set_flat (sizeS l cs k) j (z + p3))
      obtain ⟨w5, hw5⟩ : ∃ w5, w5 = wr.alloc (.cells #[.int .i64 p1, .int .i64 p2, .int .i64 p3, .int .i64 p4] 73) := ⟨_, rfl⟩
      have E5 : Ext wr w5 := by rw [hw5]; exact (Ext.refl wr).alloc _
      have x1 : w5.cell? ⟨wr.heap.size, 1, none⟩ = some (.int .i64 p2) := by rw [hw5]; simp
      have x2 : w5.cell? ⟨wr.heap.size, 2, none⟩ = some (.int .i64 p3) := by rw [hw5]; simp
      have hbx5 := Box.ext E5 hbx
      have sj : w5.cell? ⟨w1.heap.size, j, none⟩ = some (.int .i64 z) := hbx5.cell j HSF.out
      have fj := hbx5.frozen j
      have hE5 := Ext.trans hE E5
      have hE5' := Ext.trans E1 hE5
      have HC := formatAt_ok l p2
      have HJ := Lib.hid hj
      have n1 : (j : Int) < (l.length : Int) := by omega
      clear hx hcc hj hf hzz hat
      go_upto_region 7 with fail
      rw [← hw5]
      clear hw5 c0 c1 c2 c3
      clear sj fj
      go_region_with (first
        | (go_at_call 49; refine (HC _ _ ?_ hl).mono ?_; (first | exact hv.mono hE5' | exact hv.mono hE5'.drew); rw [HJ.out]; rintro e wq ⟨rfl, Fq0⟩; have Fq : Ext w5 wq := (by first | exact Fq0 | exact Ext.trans ((Ext.refl w5).drew) Fq0); have y1 := Fq.cell x1; have y2 := Fq.cell x2; have hbq := Box.ext Fq hbx5; have yj := hbq.cell j HSF.out; have gj := hbq.frozen j))
      all_goals (try go_wp2)
      all_goals go_roundw
      all_goals first
        | exact ⟨k + 1, by omega, by go_num, by have := hbq.set j (.int .i64 (z + p3)); rw [HFS.out, ← HST.out] at this; exact this, (Ext.trans hE5 Fq).setCell (Nat.le_refl _) _⟩
        | (simp [intOf]; omega)
    · have HE : Hid (sizeS l cs k = N) := Lib.hid (by rw [show k = cs.length by omega]; exact HN.out.symm)
      have HL : Hid (l.length = N.length) := Lib.hid (by rw [← HE.out]; simp [sizeS])
      rw [HE.out] at hbx
      go_wp2
      go_ret2
      refine ⟨_, rfl, ?_, hE'⟩
      rw [← HL.out]
      exact owns_mono (hbx.full (by rw [flat_length encI 1 encI_len, HL.out]) (Nat.le_refl _) HM.out) E1.size
end Go.Proofs.YtefabcnifbnehaaDoor
