/- What the program's ShortestPath computes; no condition beyond the lists, lengths and rooms that are named. -/
import Derived.Test.YtefabcnifbnehaaDoorPathW
import Derived.Deep.RegionHeld3
namespace Go.Rd
open Go.Sort Go.RowKit
theorem wpl_appB {P : Program} {ops : Array Oper} {rest : List Oper} {o : Oper} {a : Act} {Q : Exit → Act → World → Prop} (w0 w : World) (hgd : o.guard = none) (s x : Operand) (t : TypeId)
    (ho : o.op = .call { callee := .builtin .append, args := #[s, x], argTypes := #[t, t] })
    (e : TypeId) (z : Value) (size bytes : Nat) (ht : P.underlying t = some (.slice e)) (hinfo : (P.info? e).map (fun i => (i.zero, i.size, i.bytes)) = some (some z, size, bytes))
    (hzs : z.cells.size = size) (hsz : 0 < size) (hby : bytes ≤ 1000)
    (v : Value) (n : Nat) (xs : List Value) (hE : Ext w0 w) (hown : w.ownsRow w0.heap.size e size v n xs) (hn : n ≤ 2097152)
    (news : List Value) (hs : a.eval s = v) (hx : a.eval x = .slice (some ⟨w.heap.size, 0, none⟩) 1 1) (hl : news.length = size) (h1 : ∀ u ∈ news, u.oneCell' = true)
    (h : ∀ v' w', w'.ownsRow w0.heap.size e size v' (n + 1) (xs ++ news) → Ext w0 w' → (w.alloc (.cells news.toArray e)).grownBy w' v.ownBlock → (v'.ownBlock = v.ownBlock ∨ v'.ownBlock = some (w.alloc (.cells news.toArray e)).heap.size) → wpList P ops Q rest (a.put o.dst v') w') : wpList P ops Q (o :: rest) a (w.alloc (.cells news.toArray e)) := by
  obtain ⟨i, hi, hz0, hz1, hz2⟩ := info_parts hinfo
  refine wpList_append_own_at _ hgd s x t ho w0.heap.size e i z size bytes ht hi hz0 hz1 hz2 hzs hsz v n xs hs (hown.alloc _) ⟨w.heap.size, 0, none⟩ 1 1 news hx (by rw [hl, Nat.one_mul]) (new_cells _ _ _) h1 (by unfold maxLen; omega) ?_ (by have := hE.size; simp; omega) ?_
  · have : (n + 1) * bytes ≤ 2097153 * 1000 := Nat.mul_le_mul (by omega) hby
    omega
  · intro v' w' h2 h3 _ h5
    exact h v' w' h2 (ext_grownBy (hE.alloc _) h3 (fun j hj => (hown.lt j hj).1)) h3 h5
theorem own_val (w : World) (e : TypeId) (x : Value) : (w.alloc (.cells #[x] e)).ownsRow w.heap.size e 1 (.slice (some ⟨w.heap.size, 0, none⟩) 1 1) 1 [x] :=
  ⟨rfl, .inr ⟨w.heap.size, 1, #[x], rfl, Nat.le_refl _, heap_alloc_new w _, Nat.le_refl _, by unfold maxLen; omega, rfl, rfl⟩⟩
theorem lay_start {w wa wb wc : World} (I R : TypeId) (u : Int) (ha : wa = w.alloc (.cells #[.int .i64 u] I)) (hb : wb = wa.alloc (.cells #[.slice (some ⟨w.heap.size, 0, none⟩) 1 1] R)) (hc : wc = wb.alloc (.cells #[.int .i64 u] I)) :
    Lay I R wc w.heap.size w.heap.size (.slice (some ⟨w.heap.size + 1, 0, none⟩) 1 1) (.slice (some ⟨w.heap.size + 1 + 1, 0, none⟩) 1 1) [([u], .slice (some ⟨w.heap.size, 0, none⟩) 1 1)] ∧ wc.ownsRow w.heap.size I 1 (.slice (some ⟨w.heap.size + 1 + 1, 0, none⟩) 1 1) 1 (encI u) := by
  have sa : wa.heap.size = w.heap.size + 1 := by rw [ha]; simp
  have sb : wb.heap.size = w.heap.size + 1 + 1 := by rw [hb]; simp [sa]
  have Eab : Ext wa wb := by rw [hb]; exact (Ext.refl _).alloc _
  have Ebc : Ext wb wc := by rw [hc]; exact (Ext.refl _).alloc _
  have o1 : wa.ownsRow w.heap.size I 1 (.slice (some ⟨w.heap.size, 0, none⟩) 1 1) 1 (encI u) := by rw [ha]; exact own_one w I u
  have o2 : wb.ownsRow wa.heap.size R 1 (.slice (some ⟨wa.heap.size, 0, none⟩) 1 1) 1 [.slice (some ⟨w.heap.size, 0, none⟩) 1 1] := by rw [hb]; exact own_val wa R _
  have o3 : wc.ownsRow wb.heap.size I 1 (.slice (some ⟨wb.heap.size, 0, none⟩) 1 1) 1 (encI u) := by rw [hc]; exact own_one wb I u
  rw [sa] at o2
  rw [sb] at o3
  refine ⟨⟨Ext.owns Ebc (owns_mono o2 (by omega)), fun x hx => ?_, fun x hx k hk => ?_⟩, owns_mono o3 (by omega)⟩
  · simp only [List.mem_singleton] at hx
    subst hx
    simpa using Ext.owns (Ext.trans Eab Ebc) o1
  · simp only [List.mem_singleton] at hx
    subst hx
    intro he
    simp only [Value.ownBlock, Option.some.injEq] at hk he
    omega
theorem ddL_len (S : List Int) (C : List (List Int)) : (ddL S C).2.length = S.length + (ddL S C).1.length := by
  unfold ddL
  suffices h : ∀ s : List (List Int) × List Int, s.2.length = S.length + s.1.length → (C.foldl ddF s).2.length = S.length + (C.foldl ddF s).1.length from h _ (by simp)
  induction C with
  | nil => intro s h; exact h
  | cons c C ih =>
    intro s h
    rw [List.foldl_cons]
    apply ih
    unfold ddF
    split
    · exact h
    · simp; omega
theorem lay_next {I R : TypeId} (hIR : I ≠ R) {w2 w6 w3 w7 : World} {ob : Nat} {out seen nv nv' pv : Value} {pl ny : List (List Int × Value)} {p : List Int} {n : Nat} {xs : List Value} {no : Obj}
    (hl : Lay I R w6 w2.heap.size w2.heap.size out seen pl) (hn : Lay I R w6 w2.heap.size ob nv seen ny) (ho : w6.ownsRow w2.heap.size I 1 seen n xs)
    (E6 : Ext w2 w6) (hob : w2.heap.size ≤ ob) (hsz : ob ≤ w6.heap.size) (hout : ∀ k, out.ownBlock = some k → k < ob)
    (E3 : Ext w6 w3) (hp : w3.ownsRow w6.heap.size I 1 pv p.length (p.flatMap encI))
    (G7 : (w3.alloc no).grownBy w7 nv.ownBlock) (o7 : w7.ownsRow ob R 1 nv' (ny.length + 1) (ny.map Prod.snd ++ [pv])) :
    Lay I R w7 w2.heap.size w2.heap.size out seen pl ∧ Lay I R w7 w2.heap.size ob nv' seen (ny ++ [(p, pv)]) ∧ w7.ownsRow w2.heap.size I 1 seen n xs ∧ ob ≤ w7.heap.size ∧ Ext w2 w7 := by
  have Ea : Ext w6 (w3.alloc no) := E3.alloc _
  have hn' := hn.ext Ea
  have ho' := Ea.owns ho
  refine ⟨(hl.ext Ea).other hIR hn'.row G7 (fun k hk he => ?_), hn'.push hIR (owns_mono (hp.alloc _) E6.size) (fun k hk he => ?_) G7 o7, owns_grown G7 ho' (owns_types ho' hn'.row hIR), ?_, ext_grownBy (Ext.trans E6 Ea) G7 (fun k hk => Nat.le_trans hob (hn.row.lt k hk).1)⟩
  · have h1 := hout k hk
    have h2 := (hn.row.lt k he).1
    omega
  · have h1 := (hp.lt k hk).1
    have h2 := (ho.lt k he).2
    omega
  · obtain ⟨_, _, _, hs, _⟩ := G7
    have := Ea.size
    omega
end Go.Rd
namespace Go.Proofs.YtefabcnifbnehaaDoor
open Go.RowKit Go.Sort Go.Rd
theorem Tryd.infoSlI : (Tryd.prog.info? 30).map (fun i => (i.zero, i.size, i.bytes)) = some (some (.slice none 0 0), 1, 24) := by kernel_rfl
set_option maxRecDepth 4000 in
set_option maxHeartbeats 8000000 in
theorem shortestPath_ok (l : List Fmt) (u t day : Int) (v : Value) (w : World) (hv : Fmt.Rd w v l) (hcap : Room v) (hl : l.length ≤ 1048576) (hll : ∀ p ∈ l, p.rd.length ≤ 1048576) (hnl : ∀ p ∈ l, p.na.length ≤ maxLen) :
    Calls Tryd.prog 36 #[v, .int .i64 u, .int .i64 t, .int .i64 day] w (RetOwnB w 3 1 ((pathR l u t day).getD []).length (((pathR l u t day).getD []).flatMap Go.Rd.encI) (pathR l u t day).isSome) := by
  have mixed : Tryd.prog.follows .mixedOrders = true := by kernel_rfl
  obtain ⟨ok, hok⟩ : ∃ b, waysOk l u day = b := ⟨_, rfl⟩
  have HOK := Lib.hid hok
  obtain ⟨N, hN⟩ : ∃ N, pathR l u t day = N := ⟨_, rfl⟩
  have HN := Lib.hid hN
  have HLL := Lib.hid hll
  rw [hN]
  clear hN
  obtain ⟨a, cap, rfl⟩ := hv.shape
  go_enter Tryd.func36, Tryd.ntmps36
  go_wp2_with fail
  refine (isOnDay_ok l u day _ _ hv hcap hl hll hnl).mono ?_
  rintro e w1 ⟨rfl, E1⟩
  rw [hok]
  clear hok hll hnl hcap
  cases ok
  case false =>
    obtain rfl : N = none := by rw [← HN.out]; exact pathR_no (by rw [pathOk, HOK.out]; rfl)
    go_wp2
    go_ret2
    exact ⟨_, rfl, World.ownsRow_nil _ _ _ _, E1⟩
  obtain ⟨hg, h0⟩ := waysOk_parts HOK.out
  have HR : Hid (RiseI (l.map (·.id))) := Lib.hid (goodF_rise hg)
  have HI := Lib.hid h0
  have hlpos : 0 < l.length := by obtain ⟨j, y, _, h, _⟩ := atF_mem h0; have := (List.getElem?_eq_some_iff.1 h).1; omega
  clear hg h0
  go_wp2_with fail
  refine (formatAt_ok l t _ _ (hv.mono E1) hl).mono ?_
  rintro e w2 ⟨rfl, E2⟩
  have E12 := Ext.trans E1 E2
  obtain ⟨z, hz⟩ : ∃ z, atF l t = z := ⟨_, rfl⟩
  have HZ := Lib.hid hz
  rw [hz]
  clear hz
  by_cases hz0 : z < 0
  case pos =>
    obtain rfl : N = none := by rw [← HN.out]; exact pathR_no (by rw [pathOk, HOK.out, HZ.out, decide_eq_false (by omega)]; rfl)
    go_wp2
    go_ret2
    exact ⟨_, rfl, World.ownsRow_nil _ _ _ _, E12⟩
  have HP : Hid (N = shortO l day u t) := Lib.hid (by rw [← HN.out]; exact pathR_yes (by rw [pathOk, HOK.out, HZ.out, decide_eq_true (by omega)]; rfl))
  obtain ⟨b, off, rfl⟩ := Fmt.Rd.addr hv hlpos
  obtain ⟨wa, hwa⟩ : ∃ x, x = w2.alloc (.cells #[.int .i64 u] 3) := ⟨_, rfl⟩
  obtain ⟨wb, hwb⟩ : ∃ x, x = wa.alloc (.cells #[.slice (some ⟨w2.heap.size, 0, none⟩) 1 1] 30) := ⟨_, rfl⟩
  obtain ⟨wd, hwd⟩ : ∃ x, x = wb.alloc (.cells #[.int .i64 u] 3) := ⟨_, rfl⟩
  obtain ⟨hlay0, hos0⟩ := lay_start 3 30 u hwa hwb hwd
  have E2d : Ext w2 wd := by rw [hwd, hwb, hwa]; exact (((Ext.refl _).alloc _).alloc _).alloc _
  go_upto_region 5 with fail
  rw [← hwa, ← hwb, ← hwd]
  clear hwa hwb hwd
  go_loopw [10, 11] (fun lv sv wr => ∃ (m : Nat) (pl : List (List Int × Value)) (S : List Int), Hid (Layer l day u m (pl.map Prod.fst) S) ∧ Hid (∀ k, k < m → ¬ HasN l day k u t) ∧ Lay 3 30 wr w2.heap.size w2.heap.size lv sv pl ∧ wr.ownsRow w2.heap.size 3 1 sv S.length (S.flatMap Go.Rd.encI) ∧ Ext w2 wr) (fun lv sv _ => 2 * (l.length - slLen sv) + min 1 (slLen lv))
  case atStart => exact ⟨0, [([u], .slice (some ⟨w2.heap.size, 0, none⟩) 1 1)], [u], Lib.hid (layer_zero l day u), Lib.hid (fun k h => by omega), hlay0, by simpa using hos0, E2d⟩
  case round =>
    obtain ⟨wo, hwo⟩ : ∃ w', w' = wr := ⟨_, rfl⟩
    subst hwo
    obtain ⟨m, pl, S, HLY, HNO, hlay, hos, hE⟩ := hrel
    have hpm : pl.length ≤ 9223372036854775807 := by
      rcases owns_cases hlay.row with ⟨_, h⟩ | ⟨_, _, _, _, _, h1, h2, _⟩
      · omega
      · unfold maxLen at h2; omega
    have HSO := Lib.hid (HLY.out.seenOk HI.out)
    have hSb : S.length ≤ l.length := HSO.out.bound
    obtain ⟨a5, c5, rfl⟩ := (Reads.of_owns hos).shape
    obtain ⟨al, cl, rfl⟩ := (Reads.of_owns hlay.row).shape
    by_cases hne : 0 < pl.length
    case neg =>
      obtain rfl : pl = [] := List.eq_nil_of_length_eq_zero (by omega)
      have HF : Hid (N = none) := Lib.hid (HP.out.trans (layer_empty HLY.out HNO.out))
      go_wp2
      go_ret2
      rw [HF.out]
      exact ⟨_, rfl, World.ownsRow_nil _ _ _ _, Ext.trans E12 hE⟩
    obtain ⟨_, bl, offl, rfl, _⟩ := (Reads.of_owns hlay.row).at hne
    have HLB : Hid (bl < wo.heap.size) := Lib.hid (hlay.row.lt bl rfl).2
    go_wp2
    go_loopw [11, 12, 39] (fun sv nv i wr => ∃ (k : Nat) (nx : List (List Int × Value)) (T : List (List Int) × List Int), k ≤ pl.length ∧ i = .int .i64 k ∧ Hid (∀ p ∈ (pl.map Prod.fst).take k, lastI p ≠ t) ∧ Hid (stK l day (pl.map Prod.fst) S k = T) ∧ Hid (nx.map Prod.fst = T.1) ∧ Hid (SeenOk l T) ∧ Lay 3 30 wr w2.heap.size w2.heap.size (.slice (some ⟨bl, offl, none⟩) pl.length cl) sv pl ∧ Lay 3 30 wr w2.heap.size wo.heap.size nv sv nx ∧ wr.ownsRow w2.heap.size 3 1 sv T.2.length (T.2.flatMap Go.Rd.encI) ∧ wo.heap.size ≤ wr.heap.size ∧ Ext w2 wr) (fun _ _ i _ => pl.length - (intOf i).toNat)
    case atStart => exact ⟨0, [], ([], S), Nat.zero_le _, rfl, Lib.hid (fun p hp => by simp at hp), Lib.hid (stK_zero _ _ _ _), Lib.hid rfl, HSO, hlay, Lay.nil _ _ _ _ _ _, hos, Nat.le_refl _, hE⟩
    case round =>
      obtain ⟨wk, hwk⟩ : ∃ w', w' = wr := ⟨_, rfl⟩
      subst hwk
      obtain ⟨k, nx, T, hk, rfl, HNT, HT, HNX, HTS, hlk, hnk, hok, hsz, hEk⟩ := hrel
      by_cases hlt : k < pl.length
      · obtain ⟨⟨p, pv⟩, hx⟩ := get_of_lt hlt
        have HX := Lib.hid hx
        have HPM := Lib.hid (List.mem_of_getElem? hx)
        have HPF : Hid ((pl.map Prod.fst)[k]? = some p) := Lib.hid (by rw [List.getElem?_map, hx]; rfl)
        have hml := HLY.out.mlen HI.out (List.mem_of_getElem? HPF.out)
        have HPA := Lib.hid hml.2.2.1
        have hopp := hlk.paths (p, pv) (List.mem_of_getElem? hx)
        simp only at hopp
        obtain ⟨ap, cp, rfl⟩ := (Reads.of_owns hopp).shape
        obtain ⟨bp, offp, rfl, hcp⟩ := Reads.elems Go.Rd.encI_len (Reads.of_owns hopp) (by omega)
        have d0 := hcp (p.length - 1) _ hml.2.2.2 0 _ rfl
        obtain ⟨_, bl', offl', hbl, hcl⟩ := (Reads.of_owns hlk.row).at (by omega)
        cases hbl
        have c0 : wk.cell? ⟨bl, offl + k, none⟩ = some (.slice (some ⟨bp, offp, none⟩) p.length cp) := by rw [hcl k (by omega), List.getElem?_map, hx]; rfl
        obtain ⟨x0, hx0⟩ : ∃ x0, lastI p = x0 := ⟨_, rfl⟩
        have HX0 := Lib.hid hx0
        obtain ⟨q, hq⟩ : ∃ q, p.length - 1 = q := ⟨_, rfl⟩
        rw [hx0, hq] at d0
        simp only [Nat.add_zero, Nat.mul_one] at d0
        have hpl := hml.1
        have hp0 := hml.2.1
        have n4 : IntKind.i64.wrap ((p.length : Int) - 1) = (q : Int) := by rw [show (p.length : Int) - 1 = (q : Int) by omega]; exact IntWalk.i64_in _ (by omega)
        have n5 : q < p.length := by omega
        clear hml hx hcp hcl hx0 hq
        cases hb : (x0 == t)
        case true =>
          have HF : Hid (N = some p) := Lib.hid (by
            have h1 := layer_found HLY.out (List.mem_of_getElem? HPF.out)
            rw [HX0.out] at h1
            rw [HP.out, ← h1]
            simp only [beq_iff_eq] at hb
            rw [hb])
          go_wp2
          go_ret2
          rw [HF.out]
          exact ⟨_, rfl, owns_mono hopp E12.size, Ext.trans E12 hEk⟩
        have HNT2 : Hid (∀ p ∈ (pl.map Prod.fst).take (k + 1), lastI p ≠ t) := Lib.hid fun y hy => by
          rw [List.take_add_one, HPF.out] at hy
          rcases List.mem_append.1 hy with h1 | h1
          · exact HNT.out y h1
          · simp only [Option.toList_some, List.mem_singleton] at h1
            subst h1
            rw [HX0.out]
            simpa using hb
        go_wp2
        go_loopw [11, 12, 55] (fun sv nv i wr => ∃ (j : Nat) (ny : List (List Int × Value)) (U : List (List Int) × List Int), j ≤ l.length ∧ i = .int .i64 j ∧ Hid (stJ l day p j T = U) ∧ Hid (ny.map Prod.fst = U.1) ∧ Hid (SeenOk l U) ∧ Lay 3 30 wr w2.heap.size w2.heap.size (.slice (some ⟨bl, offl, none⟩) pl.length cl) sv pl ∧ Lay 3 30 wr w2.heap.size wo.heap.size nv sv ny ∧ wr.ownsRow w2.heap.size 3 1 sv U.2.length (U.2.flatMap Go.Rd.encI) ∧ wo.heap.size ≤ wr.heap.size ∧ Ext w2 wr) (fun _ _ i _ => l.length - (intOf i).toNat)
        case atStart => exact ⟨0, nx, T, Nat.zero_le _, rfl, Lib.hid (stJ_zero _ _ _ _), HNX, HTS, hlk, hnk, hok, hsz, hEk⟩
        case round =>
          obtain ⟨wi, hwi⟩ : ∃ w', w' = wr := ⟨_, rfl⟩
          subst hwi
          obtain ⟨j, ny, U, hj, rfl, HU, HNY, HUS, hli, hni, hoi, hszi, hEi⟩ := hrel
          have hUb := HUS.out.bound
          have hnl : ny.length ≤ U.2.length := by
            have h1 := HUS.out.len
            have h2 := congrArg List.length HNY.out
            rw [List.length_map] at h2
            omega
          clear d0 c0
          by_cases hltj : j < l.length
          · obtain ⟨f, hf⟩ := get_of_lt hltj
            have hE2i := Ext.trans E12 hEi
            obtain ⟨ca', cc', c0, c1, c2, c3, hatf⟩ := Fmt.Rd.cells (hv.mono hE2i) hf
            have hfl := HLL.out f (List.mem_of_getElem? hf)
            have HF := Lib.hid hf
            obtain ⟨j0, f0, hj0, hf0, hf0x⟩ := atF_mem HPA.out
            rw [HX0.out] at hj0 hf0x
            have hjl := (List.getElem?_eq_some_iff.1 hf0).1
            have HJ := Lib.hid hj0
            have HFX := Lib.hid hf0x
            have n1 : (j0 : Int) < (l.length : Int) := by omega
            obtain ⟨ca, cc, d0, d1, d2, d3, hat⟩ := Fmt.Rd.cells (hv.mono hE2i) hf0
            obtain ⟨w4, hw4⟩ : ∃ w4, w4 = wi.alloc (.cells #[.int .i64 f.id, .string ⟨f.na.toArray⟩, .int .i64 f.un, .slice ca' f.rd.length cc'] 60) := ⟨_, rfl⟩
            have E34 : Ext wi w4 := by rw [hw4]; exact (Ext.refl _).alloc _
            have z0 : w4.cell? ⟨wi.heap.size, 0, none⟩ = some (.int .i64 f.id) := by rw [hw4]; simp
            have z1 : w4.cell? ⟨wi.heap.size, 1, none⟩ = some (.string ⟨f.na.toArray⟩) := by rw [hw4]; simp
            have z2 : w4.cell? ⟨wi.heap.size, 2, none⟩ = some (.int .i64 f.un) := by rw [hw4]; simp
            have z3 : w4.cell? ⟨wi.heap.size, 3, none⟩ = some (.slice ca' f.rd.length cc') := by rw [hw4]; simp
            have hbx : Box w4 wi.heap.size 60 [.int .i64 f.id, .string ⟨f.na.toArray⟩, .int .i64 f.un, .slice ca' f.rd.length cc'] := Box.of_new hw4 rfl
            have HS : Hid (∀ w', Ext w4 w' → (w'.cell? ⟨b, off + j0 * 4, none⟩ = some (.int .i64 f0.id) ∧ w'.cell? ⟨b, off + j0 * 4 + 1, none⟩ = some (.string ⟨f0.na.toArray⟩) ∧ w'.cell? ⟨b, off + j0 * 4 + 2, none⟩ = some (.int .i64 f0.un) ∧ w'.cell? ⟨b, off + j0 * 4 + 3, none⟩ = some (.slice ca f0.rd.length cc) ∧ w'.cell? ⟨wi.heap.size, 0, none⟩ = some (.int .i64 f.id) ∧ w'.cell? ⟨wi.heap.size, 1, none⟩ = some (.string ⟨f.na.toArray⟩) ∧ w'.cell? ⟨wi.heap.size, 2, none⟩ = some (.int .i64 f.un) ∧ w'.cell? ⟨wi.heap.size, 3, none⟩ = some (.slice ca' f.rd.length cc'))) := Lib.hid fun w' h => ⟨(Ext.trans E34 h).cell d0, (Ext.trans E34 h).cell d1, (Ext.trans E34 h).cell d2, (Ext.trans E34 h).cell d3, h.cell z0, h.cell z1, h.cell z2, h.cell z3⟩
            have hv4 := hv.mono (Ext.trans hE2i E34)
            have hat4 := hat.mono E34
            have hatf4 := hatf.mono E34
            have ho4 := E34.owns hoi
            have hE4 := Ext.trans hEi E34
            obtain ⟨a4, c4, rfl⟩ := (Reads.of_owns ho4).shape
            clear hf hf0 hj0 hf0x d0 d1 d2 d3 z0 z1 z2 z3 hat hatf
            cases hb2 : leadB day x0 f
            case false =>
              have HEB : Hid (leadB day f0.id f = false) := Lib.hid (by rw [HFX.out]; exact hb2)
              have HU2 : Hid (stJ l day p (j + 1) T = U) := Lib.hid ((stJ_seen HF.out (by rw [HX0.out, hb2]; rfl)).trans HU.out)
              clear hb2
              go_upto_region 16 with fail
              rw [← hw4]
              clear hw4 c0 c1 c2 c3
              go_cut [74] (fun z wx => z = .bool false ∧ Ext w4 wx)
              case first =>
                have hcells := HS.out w4 (Ext.refl _)
                have y0 := cell_in_class hcells.1
                have y1 := cell_in_class hcells.2.1
                have y2 := cell_in_class hcells.2.2.1
                have y3 := cell_in_class hcells.2.2.2.1
                have y4 := cell_in_class hcells.2.2.2.2.1
                have y5 := cell_in_class hcells.2.2.2.2.2.1
                have y6 := cell_in_class hcells.2.2.2.2.2.2.1
                have y7 := cell_in_class hcells.2.2.2.2.2.2.2
                have q1 := Calls.in_class (w := w4) (fun w' hw' => (HJ.out ▸ formatAt_ok l x0 _ w' (hv4.mono hw') hl : Calls Tryd.prog 49 #[.slice (some ⟨b, off, none⟩) l.length cap, .int .i64 x0] w' fun e w'' => e = .returned (.int .i64 (j0 : Int)) ∧ Ext w' w''))
                have q2 := Calls.in_class (w := w4) (fun w' hw' => (HEB.out ▸ leads_ok f0 f day (.slice ca f0.rd.length cc) (.slice ca' f.rd.length cc') w' (hat4.mono hw') (hatf4.mono hw') hfl : Calls Tryd.prog 70 #[.agg #[.int .i64 f0.id, .string ⟨f0.na.toArray⟩, .int .i64 f0.un, .slice ca f0.rd.length cc], .agg #[.int .i64 f.id, .string ⟨f.na.toArray⟩, .int .i64 f.un, .slice ca' f.rd.length cc'], .int .i64 day] w' fun e w'' => e = .returned (.bool false) ∧ Ext w' w''))
                clear hcells
                refine wp_region_quiet_below mixed (by kernel_rfl) ?_
                repeat (first | go_big_quiet_step (first | exact q1 _ _ | exact q2 _ _) | quiet_step (first | exact q1 _ _ | exact q2 _ _))
                refine wpQuiet_nil ?_
                intro _ hw'
                obtain ⟨⟨dq, osq⟩, hw''⟩ := hw'
                subst hw''
                clear q1 q2 y0 y1 y2 y3 y4 y5 y6 y7
                go_wp2
                go_meet
                exact ⟨rfl, (Ext.refl w4).regrown dq osq⟩
              case rest =>
              obtain ⟨rfl, E5⟩ := hcut
              have E45 := Ext.trans E34 E5
              go_wp2
              go_roundw
              case rel => exact ⟨j + 1, ny, U, by omega, by go_num, HU2, HNY, HUS, hli.ext E45, hni.ext E45, E5.owns ho4, Nat.le_trans hszi E45.size, Ext.trans hE4 E5⟩
              case measure => simp [intOf]; omega
            have HEB : Hid (leadB day f0.id f = true) := Lib.hid (by rw [HFX.out]; exact hb2)
            have HB2 := Lib.hid hb2
            obtain ⟨c, hc⟩ : ∃ c, U.2.contains f.id = c := ⟨_, rfl⟩
            have HC := Lib.hid hc
            clear hb2 hc
            go_upto_region 16 with fail
            rw [← hw4]
            clear hw4 c0 c1 c2 c3
            go_cut [74] (fun z wx => z = .bool (!c) ∧ Ext w4 wx)
            case first =>
              go_region_held3 (fun w' => w'.cell? ⟨b, off + j0 * 4, none⟩ = some (.int .i64 f0.id) ∧ w'.cell? ⟨b, off + j0 * 4 + 1, none⟩ = some (.string ⟨f0.na.toArray⟩) ∧ w'.cell? ⟨b, off + j0 * 4 + 2, none⟩ = some (.int .i64 f0.un) ∧ w'.cell? ⟨b, off + j0 * 4 + 3, none⟩ = some (.slice ca f0.rd.length cc) ∧ w'.cell? ⟨wi.heap.size, 0, none⟩ = some (.int .i64 f.id) ∧ w'.cell? ⟨wi.heap.size, 1, none⟩ = some (.string ⟨f.na.toArray⟩) ∧ w'.cell? ⟨wi.heap.size, 2, none⟩ = some (.int .i64 f.un) ∧ w'.cell? ⟨wi.heap.size, 3, none⟩ = some (.slice ca' f.rd.length cc')) (exact HS.out _ (by repeat' (first | exact Ext.refl _ | assumption | refine Ext.drew ?_ | refine Ext.alloc ?_ _))) (first
                | (go_at_call 49; refine (formatAt_ok l x0 _ _ (hv4.mono (by repeat' (first | exact Ext.refl _ | assumption | refine Ext.drew ?_ | refine Ext.alloc ?_ _))) hl).mono ?_; rw [HJ.out]; rintro e wq1 ⟨rfl, Fq1⟩; have G1 : Ext w4 wq1 := Ext.trans (by repeat' (first | exact Ext.refl _ | assumption | refine Ext.drew ?_ | refine Ext.alloc ?_ _)) Fq1)
                | (go_at_call 70; refine (leads_ok f0 f day _ _ _ (hat4.mono (by repeat' (first | exact Ext.refl _ | assumption | refine Ext.drew ?_ | refine Ext.alloc ?_ _))) (hatf4.mono (by repeat' (first | exact Ext.refl _ | assumption | refine Ext.drew ?_ | refine Ext.alloc ?_ _))) hfl).mono ?_; rw [HEB.out]; rintro e wq2 ⟨rfl, Fq2⟩; have G2 : Ext w4 wq2 := Ext.trans (by repeat' (first | exact Ext.refl _ | assumption | refine Ext.drew ?_ | refine Ext.alloc ?_ _)) Fq2)
                | (go_at_call 71; refine (containsInt_ok U.2 f.id _ _ (Reads.of_owns (Ext.owns (by repeat' (first | exact Ext.refl _ | assumption | refine Ext.drew ?_ | refine Ext.alloc ?_ _)) ho4)) (by omega)).mono ?_; rw [HC.out]; rintro e wq3 ⟨rfl, rfl⟩))
              all_goals (try go_wp2)
              all_goals go_meet
              all_goals exact ⟨rfl, G2⟩
            case rest =>
            obtain ⟨rfl, E5⟩ := hcut
            have E45 := Ext.trans E34 E5
            have ho5 := E5.owns ho4
            have hE5 := Ext.trans hE4 E5
            cases c
            case true =>
              have HU2 : Hid (stJ l day p (j + 1) T = U) := Lib.hid ((stJ_seen HF.out (by rw [HX0.out, HB2.out, HU.out, HC.out]; rfl)).trans HU.out)
              go_wp2
              go_roundw
              case rel => exact ⟨j + 1, ny, U, by omega, by go_num, HU2, HNY, HUS, hli.ext E45, hni.ext E45, ho5, Nat.le_trans hszi E45.size, hE5⟩
              case measure => simp [intOf]; omega
            have HU2 : Hid (stJ l day p (j + 1) T = (U.1 ++ [p ++ [f.id]], U.2 ++ [f.id])) := Lib.hid ((stJ_new HF.out (by rw [HX0.out, HB2.out, HU.out, HC.out]; rfl)).trans (by rw [HU.out]))
            have HUS2 := Lib.hid (HUS.out.add (List.mem_of_getElem? HF.out) HC.out (p ++ [f.id]))
            have hbx5 := Box.ext E5 hbx
            have z0 := hbx5.cell 0 rfl
            have hli5 := (hli.ext E45).ext ((Ext.refl _).alloc (.cells #[.int .i64 f.id] 3))
            have hni5 := (hni.ext E45).ext ((Ext.refl _).alloc (.cells #[.int .i64 f.id] 3))
            have hsz5 := Nat.le_trans hszi E45.size
            go_wp2_with (at_builtin; refine wpl_appB w2 _ rfl _ _ 30 rfl 3 _ 1 8 Tryd.underlying30 Tryd.infoInt rfl (by decide) (by decide) _ _ _ hE5 ho5 ?c1 [.int .i64 f.id] rfl rfl rfl (Go.Rd.encI_one _) ?_)
            case c1 => omega
            intro v6 w6 o6 E6 G6 B6
            have hli6 := hli5.seen (seen' := v6) (by decide) (ho5.alloc _) G6 (by simpa using B6)
            have hni6 := hni5.seen (seen' := v6) (by decide) (ho5.alloc _) G6 (by simpa using B6)
            have hbx6 := Box.grown G6 (ho5.alloc _) (Box.ext ((Ext.refl _).alloc _) hbx5) (by decide)
            have hsz6 : wo.heap.size ≤ w6.heap.size := by
              obtain ⟨_, _, _, hs, _⟩ := G6
              have h1 : wc.heap.size ≤ (wc.alloc (.cells #[.int .i64 f.id] 3)).heap.size := by simp
              omega
            have HS6 : Hid (∀ w', Ext w6 w' → w'.cell? ⟨wi.heap.size, 0, none⟩ = some (.int .i64 f.id)) := Lib.hid fun w' h => h.cell (hbx6.cell 0 rfl)
            have hrp6 := Reads.of_owns (hli6.paths _ HPM.out)
            simp only at hrp6
            have hout : ∀ kk, ((.slice (some ⟨bl, offl, none⟩) pl.length cl) : Value).ownBlock = some kk → kk < wo.heap.size := fun kk hkk => by cases hkk; exact HLB.out
            have hwo2 := hE.size
            go_upto_region 18 with fail
            go_region_held3 (fun w' => w'.cell? ⟨wi.heap.size, 0, none⟩ = some (.int .i64 f.id)) (first | exact hz7 | exact HS6.out _ (by repeat' (first | exact Ext.refl _ | assumption | refine Ext.drew ?_ | refine Ext.alloc ?_ _))) (first
              | (go_at_call 72; refine (cloneInt_ok p _ _ ?_ (by omega)).mono ?_; (exact Reads.mono (by repeat' (first | exact Ext.refl _ | assumption | refine Ext.drew ?_ | refine Ext.alloc ?_ _)) hrp6); rintro e wq1 ⟨vq1, rfl, oq1, Fq1⟩; have G1 : Ext w6 wq1 := Ext.trans (by repeat' (first | exact Ext.refl _ | assumption | refine Ext.drew ?_ | refine Ext.alloc ?_ _)) Fq1; have K1 : wq1.ownsRow w6.heap.size 3 1 vq1 p.length (p.flatMap Go.Rd.encI) := owns_mono oq1 (by refine Below.size (B := w6.heap.size) (w := w6) ?_; repeat' (first | exact Ext.refl _ | assumption | refine Ext.drew ?_ | refine Ext.alloc ?_ _)))
              | (refine step_appG w6.heap.size rfl (.tmp 82) (.tmp 85) 30 rfl 3 _ 1 8 Tryd.underlying30 Tryd.infoInt rfl (by decide) (by decide) _ _ _ rfl (by first | exact K1 | exact Ext.owns (by repeat' (first | exact Ext.refl _ | assumption | refine Ext.drew ?_ | refine Ext.alloc ?_ _)) K1) (by refine Below.size (B := w6.heap.size) (w := w6) ?_; repeat' (first | exact Ext.refl _ | assumption | refine Ext.drew ?_ | refine Ext.alloc ?_ _)) _ 1 1 [.int .i64 f.id] rfl rfl (one_news (by first | (simp; done) | exact Ext.cell Fq1 (by simp))) (by simp [Value.oneCell']) (by omega) ?_; intro v3 w3 o3 Gr3 B3; obtain ⟨a3, c3, rfl⟩ := (Reads.of_owns o3).shape; have G3 : Ext w6 w3 := ext_grownBy (by repeat' (first | exact Ext.refl _ | assumption | refine Ext.drew ?_ | refine Ext.alloc ?_ _)) Gr3 (fun kk hkk => (World.ownsRow.lt K1 kk hkk).1))
              | (refine step_appG wo.heap.size rfl (.tmp 80) (.tmp 87) 81 rfl 30 _ 1 24 Tryd.underlying81 Tryd.infoSlI rfl (by decide) (by decide) _ _ _ rfl (Ext.owns (by repeat' (first | exact Ext.refl _ | assumption | refine Ext.drew ?_ | refine Ext.alloc ?_ _)) hni6.row) (Nat.le_trans hsz6 (by refine Below.size (B := w6.heap.size) (w := w6) ?_; repeat' (first | exact Ext.refl _ | assumption | refine Ext.drew ?_ | refine Ext.alloc ?_ _))) _ 1 1 [.slice a3 (p.length + 1) c3] rfl rfl (one_news (by simp)) (by simp [Value.oneCell']) (by omega) ?_; intro v7 w7 o7 G7 B7; have hz7 : w7.cell? ⟨wi.heap.size, 0, none⟩ = some (.int .i64 f.id) := (Box.grown G7 (Ext.owns (by repeat' (first | exact Ext.refl _ | assumption | refine Ext.drew ?_ | refine Ext.alloc ?_ _)) hni6.row) (Box.ext (by repeat' (first | exact Ext.refl _ | assumption | refine Ext.drew ?_ | refine Ext.alloc ?_ _)) hbx6) (by decide)).cell 0 rfl))
            all_goals (
              obtain ⟨hli7, hni7, o8, hsz7, E7⟩ := lay_next (p := p ++ [f.id]) (by decide) hli6 hni6 o6 E6 hwo2 hsz6 hout G3 (by simpa [Go.Rd.encI] using o3) G7 o7
              have HNY2 : Hid ((ny ++ [(p ++ [f.id], Value.slice a3 (p.length + 1) c3)]).map Prod.fst = (U.1 ++ [p ++ [f.id]], U.2 ++ [f.id]).1) := Lib.hid (by rw [List.map_append, HNY.out]; rfl)
              clear G7 B7 o7 Gr3 o3
              go_wp2
              go_roundw
              case rel => exact ⟨j + 1, _, (U.1 ++ [p ++ [f.id]], U.2 ++ [f.id]), by omega, by go_num, HU2, HNY2, HUS2, hli7, hni7, by simpa [Go.Rd.encI] using o8, hsz7, E7⟩
              case measure => simp [intOf]; omega)
          · have HT2 : Hid (stK l day (pl.map Prod.fst) S (k + 1) = U) := Lib.hid (by rw [← HU.out, ← HT.out]; exact (stK_succ HPF.out (by omega)).symm)
            go_wp2
            go_roundw
            case rel => exact ⟨k + 1, ny, U, by omega, by go_num, HNT2, HT2, HNY, HUS, hli, hni, hoi, hszi, hEi⟩
            case measure => simp [intOf]; omega
      · have HTD : Hid (ddL S (candL l day (pl.map Prod.fst)) = T) := Lib.hid ((stK_end (by rw [List.length_map]; omega)).symm.trans HT.out)
        have HLY2 : Hid (Layer l day u (m + 1) (nx.map Prod.fst) T.2) := Lib.hid (by
          have := layer_next HR.out HLY.out
          rw [HTD.out] at this
          rw [HNX.out]; exact this)
        have HNO2 : Hid (∀ k, k < m + 1 → ¬ HasN l day k u t) := Lib.hid (layer_step HLY.out HNO.out (fun p hp => HNT.out p (by rw [List.take_of_length_le (by rw [List.length_map]; omega)]; exact hp)))
        have hlen : T.2.length = S.length + nx.length := by
          have h1 := ddL_len S (candL l day (pl.map Prod.fst))
          rw [HTD.out] at h1
          have h2 := congrArg List.length HNX.out
          rw [List.length_map] at h2
          omega
        have hTb := HTS.out.bound
        obtain ⟨a8, c8, rfl⟩ := (Reads.of_owns hok).shape
        obtain ⟨a9, c9, rfl⟩ := (Reads.of_owns hnk.row).shape
        have hnk2 : Lay 3 30 wk w2.heap.size w2.heap.size (.slice a9 nx.length c9) (.slice a8 T.2.length c8) nx := ⟨owns_mono hnk.row hE.size, hnk.paths, hnk.apart⟩
        go_wp2
        go_roundw
        case rel => exact ⟨m + 1, nx, T.2, HLY2, HNO2, hnk2, hok, hEk⟩
        case measure =>
          simp [slLen]
          omega
end Go.Proofs.YtefabcnifbnehaaDoor
