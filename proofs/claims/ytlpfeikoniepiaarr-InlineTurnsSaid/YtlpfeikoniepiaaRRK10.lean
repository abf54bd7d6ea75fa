/- InlineTurns: the new log with two elements written; the whole call. -/
import Derived.Test.YtlpfeikoniepiaaRRK9
set_option linter.all false
namespace Go.Mir.A
open Go.Proofs
set_option linter.unusedVariables false
set_option linter.unusedSectionVars false
set_option linter.unusedSimpArgs false
set_option maxRecDepth 100000
set_option maxHeartbeats 1000000

theorem encE_len (x : Entry) : (encE x).length = 18 := rfl
theorem encE_strip (x : Entry) : (encE x).map Dat.strip1 = encE x := rfl
theorem encE_under (n : Nat) (x : Entry) : Dat.underL n (encE x) = true := by
  simp [encE, Dat.underL, Dat.under, under_encR, under_encS]
theorem encE_cell (x : Entry) : (encE x).all Dat.isCell = true := rfl
abbrev E10 (l : List Entry) (k : Nat) : Env := [(0, .slice false (l.map encE)), (5, .int .i64 k), (6, .ptr 0 0), (7, .ptr 1 0), (8, .ptr 2 0), (83, .bool false)]
abbrev S10 (q : Part) (A B : Entry) : St := [encPt q, encE B, encE A]

section
variable {N : Nat} {σ0 : St} {g0 : Gh} {w0 : World} {a : Act} {w : World} {g : Gh}
/-- a variable's entry read -/
theorem load_ent {e : Env} {σ : St} (h : Fr N 112 σ0 g0 w0 e σ a w g) {id : Nat} {x : Entry} {v : Value} (hx : St.get σ id = some (encE x)) (hid : id < σ.length) (hv : Rep g w (.ptr id 0) v) :
    ∃ us : List Value, (Instr.loadAt 60 v).run Try.prog w = .ok (.agg us.toArray) w ∧ RepL g w (encE x) us := by
  have ht : (encE x).take 18 = encE x := rfl
  obtain ⟨u, h1, h2, -, -⟩ := h.load (p := .ptr id 0) (v := v) hv (by simpa [Dat.under] using hid) a60 s60 (fun e => by cases e) (d := .agg (encE x)) (by simp [loadD, hx, encE_len, ofCells, encE_strip, ht])
  simp only [Rep] at h2
  obtain ⟨us, rfl, h3, -⟩ := h2
  exact ⟨us, h1, h3⟩
theorem RepL_one {x : Entry} {us : List Value} (h : RepL g w (encE x) us) : ∀ u ∈ us, u.oneCell' = true := by
  intro u hu
  obtain ⟨i, hi⟩ := List.getElem?_of_mem hu
  have hl := RepL_len h
  have hlt : i < (encE x).length := by rw [← hl]; exact (List.getElem?_eq_some_iff.1 hi).1
  obtain ⟨v, hv, hr⟩ := RepL_get h (List.getElem?_eq_getElem hlt)
  rw [hi] at hv
  injection hv with hv
  subst hv
  exact cell_oneCell (List.all_eq_true.1 (encE_cell x) _ (List.getElem_mem hlt)) hr

theorem mid7 {l : List Entry} {k : Nat} {q : Part} {A B : Entry} {Q : Exit → Act → World → Prop} (hn : l.length ≤ 200) (hk : k + 1 < l.length) (h : Fr N 112 σ0 g0 w0 (E10 l k) (S10 q A B) a w g)
    (hrest : ∀ a' w' g', Fr N 112 σ0 g0 w0 [(10, .slice false ((turned l k A B).map encE)), (8, .ptr 2 0)] (S10 q A B) a' w' g' → (b7 10).wp Try.prog Q a' w') :
    (Code.seq (.region 10 o10 false) (.seq (.region 11 o11 false) (.seq (.region 12 o12 false) (b7 10)))).wp Try.prog Q a w := by
  obtain ⟨z, hz, hzs⟩ := Option.map_eq_some_iff.1 z60
  obtain ⟨inf, hinf, hz⟩ := Option.bind_eq_some_iff.1 hz
  have hsz : inf.size = 18 := by simpa [sizeP, hinf] using s60
  have hby : inf.bytes = 192 := by simpa [hinf] using y60
  have hts : ∀ s, s < 112 → s < a.tmps.size := fun s hs => Nat.lt_of_lt_of_le hs h.tsize
  -- the empty row
  have hw1 := Grown1.alloc w #[] 60
  have h1 := h.grown hw1 0
  generalize hw1e : w.alloc (.cells #[] 60) = w1 at hw1 h1
  generalize gB g w.heap.size 0 = g1 at h1
  -- the slots
  obtain ⟨v0, hv0, hr0, -, hu0⟩ := h1.env 0 _ rfl
  obtain ⟨v5, hv5, hr5, -, -⟩ := h1.env 5 _ rfl
  obtain ⟨v6, hv6, hr6, -, -⟩ := h1.env 6 _ rfl
  obtain ⟨v7, hv7, hr7, -, -⟩ := h1.env 7 _ rfl
  simp only [Rep] at hr5
  subst hr5
  -- what is copied
  have hall : (l.map encE).all (fun r => r.length == 18) = true := by simp [encE_len]
  obtain ⟨vss, k1, k2, k3, -, hsrc⟩ := h1.src (P := Try.prog) (esz := 18) hr0 hu0 (ys := l.map encE) (str := false) rfl (tx := 48) ⟨60, u48⟩ hall
  rw [List.length_map] at k1 hsrc
  have hfl := flatten_len k2
  have hgrow : ∀ ty, _ := fun ty => run_append_grow_src (P := Try.prog) w1 48 48 ty 60 inf z u48 hinf hz (some ⟨w.heap.size, 0, none⟩) 0 0 [] (run_firstCells_some w1.drew inf.size 0 ⟨w.heap.size, 0, none⟩ 0 0 [] (by simp) (by simp)) v0 l.length vss.flatten (by rw [hsz]; exact hsrc) (by omega) (by omega)
    (growslice_fits (by omega) (by rw [hby]; omega))
  simp only [Nat.zero_add, List.nil_append] at hgrow
  generalize hC : grownCap w1 l.length 0 60 = C at hgrow
  have hCge : l.length ≤ C := by rw [← hC]; exact grownCap_ge w1 _ _ _
  generalize hzz : Builtin.zeroCells z.cells (C - l.length) = zz at hgrow
  have hw2 := Grown1.grow w1 (vss.flatten.toArray ++ zz) 60
  generalize w1.drew.alloc (.cells (vss.flatten.toArray ++ zz) 60) = w2 at hw2 hgrow
  have hw2n := hw2.new
  generalize hB : w1.heap.size = bb at hw2n hgrow
  -- region 10
  refine wp_seq (wp_region ?_)
  rw [sz10]
  show wpOps Try.prog o10 _ [0, 1, 2, 3] a w
  refine p10_0.v (fun o ho => ex_build0 u48 hinf ho) ?_
  rw [hw1e]
  refine p10_1.v (fun o ho => ex_move ho) ?_
  refine p10_2.v (fun o ho => ex_append ho (v := .slice (some ⟨bb, 0, none⟩) l.length C) (w' := w2) ?_) ?_
  · have e85 : ((a.put (some 85) (.slice (some ⟨w.heap.size, 0, none⟩) 0 0)).put (some 86) (Act.eval (a.put (some 85) (.slice (some ⟨w.heap.size, 0, none⟩) 0 0)) (.tmp 0))).eval (.tmp 85) = .slice (some ⟨w.heap.size, 0, none⟩) 0 0 := by
      rw [eval_put (by rw [put_size]; exact hts 86 (by omega)), if_neg (by omega), eval_put (hts 85 (by omega)), if_pos rfl]
    have e86 : ((a.put (some 85) (.slice (some ⟨w.heap.size, 0, none⟩) 0 0)).put (some 86) (Act.eval (a.put (some 85) (.slice (some ⟨w.heap.size, 0, none⟩) 0 0)) (.tmp 0))).eval (.tmp 86) = v0 := by
      rw [eval_put (by rw [put_size]; exact hts 86 (by omega)), if_pos rfl, eval_put (hts 85 (by omega)), if_neg (by omega), eval_of hv0]
    rw [e85, e86]
    exact hgrow o.type
  refine p10_3.v (fun o ho => ex_assign ho) ?_
  rw [eval_put (s := 87) (t := 87) (by rw [put_size, put_size]; exact hts 87 (by omega)), if_pos rfl]
  generalize hA10 : ((((a.put (some 85) _).put (some 86) _).put (some 87) _).put (some 10) (.slice (some ⟨bb, 0, none⟩) l.length C)) = a10
  have t10 : ∀ s, s ≠ 85 → s ≠ 86 → s ≠ 87 → s ≠ 10 → a10.tmps[s]? = a.tmps[s]? := fun s c1 c2 c3 c4 => by rw [← hA10, put_get c4, put_get c3, put_get c2, put_get c1]
  have s10 : a10.tmps.size = a.tmps.size := by rw [← hA10]; simp only [put_size]
  have d10 : a10.defers = [] := by rw [← hA10]; exact h.defers
  have e10 : a10.tmps[10]? = some (.slice (some ⟨bb, 0, none⟩) l.length C) := by
    rw [← hA10]
    exact put_same (by simp only [put_size]; exact hts 10 (by omega))
  clear hA10
  show Exit.then _ _ .normal a10 w2
  simp only [Exit.then]
  -- region 11
  have h2 := h1.grown hw2 0
  obtain ⟨us1, hl1, hu1⟩ := load_ent h2 (id := 1) (x := B) (v := v7) rfl (by simp [S10]) (by simp only [Rep] at hr7 ⊢; exact hr7)
  have hus1 := RepL_len hu1
  rw [encE_len] at hus1
  have hcur2 : (k * 18) + us1.length ≤ (vss.flatten.toArray ++ zz).size := by
    have e1 : (vss.flatten.toArray ++ zz).size = l.length * 18 + zz.size := by
      rw [Array.size_append, List.size_toArray, hfl, k1]
    rw [e1, hus1]
    omega
  have hst1 := run_storeAt (P := Try.prog) (w := w2) hinf (b := bb) (off := k * 18) (us := us1) (T := 60) (by rw [hsz, hus1]) hw2n hcur2 (RepL_one hu1)
  generalize hc3 : ((vss.flatten.toArray ++ zz).toList.take (k * 18) ++ us1 ++ (vss.flatten.toArray ++ zz).toList.drop (k * 18 + us1.length)).toArray = cells3 at hst1
  have hw3 := hw2.set (c2 := cells3)
  have hw3n := hw3.new
  rw [hB] at hw3 hw3n
  generalize w2.setRow bb cells3 = w3 at hst1 hw3 hw3n
  have hc3' : cells3.toList = (vss.set k us1).flatten ++ zz.toList := by
    rw [← hc3]
    have := flat_set vss k us1 zz.toList k2 hus1 (by omega)
    simpa [hus1] using this
  have ev : ∀ {a : Act} {s : Nat} {v : Value}, a.tmps[s]? = some v → a.eval (.tmp s) = v := fun h => eval_of h
  have e5 : a10.tmps[5]? = some (.int .i64 k) := by rw [t10 5 (by omega) (by omega) (by omega) (by omega), hv5]
  have e7 : a10.tmps[7]? = some v7 := by rw [t10 7 (by omega) (by omega) (by omega) (by omega), hv7]
  have e6 : a10.tmps[6]? = some v6 := by rw [t10 6 (by omega) (by omega) (by omega) (by omega), hv6]
  have sz : ∀ s, s < 112 → s < a10.tmps.size := fun s hs => by rw [s10]; exact hts s hs
  refine wp_seq (wp_region ?_)
  rw [sz11]
  show wpOps Try.prog o11 _ [0, 1, 2, 3, 4] a10 w2
  refine p11_0.v (fun o ho => ex_move ho) ?_
  rw [ev e10]
  refine p11_1.v (fun o ho => ex_move ho) ?_
  rw [eval_put (sz 88 (by omega)), if_neg (by omega), ev e5]
  refine p11_2.v (fun o ho => ex_load ho (u := .agg us1.toArray) (w' := w2) ?_) ?_
  · rw [eval_put (by rw [put_size]; exact sz 89 (by omega)), if_neg (by omega), eval_put (sz 88 (by omega)), if_neg (by omega), ev e7]
    exact hl1
  refine p11_3.v (fun o ho => ex_index ho (u := .pointer (some ⟨bb, k * 18, none⟩)) (w' := w2) ?_) ?_
  · rw [eval_put (by rw [put_size, put_size]; exact sz 90 (by omega)), if_neg (by omega), eval_put (by rw [put_size]; exact sz 89 (by omega)), if_neg (by omega), eval_put (sz 88 (by omega)), if_pos rfl,
      eval_put (by rw [put_size, put_size]; exact sz 90 (by omega)), if_neg (by omega), eval_put (by rw [put_size]; exact sz 89 (by omega)), if_pos rfl]
    have := run_index (P := Try.prog) (w := w2) u48 hinf bb 0 l.length C (k : Int) (by omega) (by omega)
    rw [hsz] at this
    simpa using this
  refine p11_4.s (fun o ho => ex_store ho (w' := w3) ?_) ?_
  · rw [eval_put (by simp only [put_size]; exact sz 91 (by omega)), if_pos rfl, eval_put (by simp only [put_size]; exact sz 91 (by omega)), if_neg (by omega), eval_put (by simp only [put_size]; exact sz 90 (by omega)), if_pos rfl]
    exact hst1
  rw [put_none]
  generalize hA11 : ((((a10.put (some 88) _).put (some 89) _).put (some 90) _).put (some 91) _) = a11
  have t11 : ∀ s, s ≠ 88 → s ≠ 89 → s ≠ 90 → s ≠ 91 → a11.tmps[s]? = a10.tmps[s]? := fun s c1 c2 c3 c4 => by rw [← hA11, put_get c4, put_get c3, put_get c2, put_get c1]
  have s11 : a11.tmps.size = a10.tmps.size := by rw [← hA11]; simp only [put_size]
  have d11 : a11.defers = [] := by rw [← hA11]; exact d10
  clear hA11
  show Exit.then _ _ .normal a11 w3
  simp only [Exit.then]
  -- region 12
  have h3 := h1.grown hw3 0
  obtain ⟨us0, hl0, hu0'⟩ := load_ent h3 (id := 0) (x := A) (v := v6) rfl (by simp [S10]) (by simp only [Rep] at hr6 ⊢; exact hr6)
  have hus0 := RepL_len hu0'
  rw [encE_len] at hus0
  have k2' : ∀ vs ∈ vss.set k us1, vs.length = 18 := fun vs hvs => by
    rcases List.mem_or_eq_of_mem_set hvs with h | h
    · exact k2 vs h
    · rw [h]; exact hus1
  have hcur3 : ((k + 1) * 18) + us0.length ≤ cells3.size := by
    have e1 : cells3.size = l.length * 18 + zz.size := by
      have h5 := congrArg List.length hc3'
      rw [List.length_append, flatten_len k2', List.length_set, k1, Array.length_toList, Array.length_toList] at h5
      exact h5
    rw [e1, hus0]
    omega
  have hst0 := run_storeAt (P := Try.prog) (w := w3) hinf (b := bb) (off := (k + 1) * 18) (us := us0) (T := 60) (by rw [hsz, hus0]) hw3n hcur3 (RepL_one hu0')
  generalize hc4 : (cells3.toList.take ((k + 1) * 18) ++ us0 ++ cells3.toList.drop ((k + 1) * 18 + us0.length)).toArray = cells4 at hst0
  have hw4 := hw3.set (c2 := cells4)
  have hw4n := hw4.new
  rw [hB] at hw4 hw4n
  generalize w3.setRow bb cells4 = w4 at hst0 hw4 hw4n
  have hc4' : cells4.toList = ((vss.set k us1).set (k + 1) us0).flatten ++ zz.toList := by
    rw [← hc4, hc3', hus0]
    exact flat_set (vss.set k us1) (k + 1) us0 zz.toList k2' hus0 (by simp; omega)
  have f5 : a11.tmps[5]? = some (.int .i64 k) := by rw [t11 5 (by omega) (by omega) (by omega) (by omega), e5]
  have f6 : a11.tmps[6]? = some v6 := by rw [t11 6 (by omega) (by omega) (by omega) (by omega), e6]
  have f10 : a11.tmps[10]? = some (.slice (some ⟨bb, 0, none⟩) l.length C) := by rw [t11 10 (by omega) (by omega) (by omega) (by omega), e10]
  have sz' : ∀ s, s < 112 → s < a11.tmps.size := fun s hs => by rw [s11]; exact sz s hs
  refine wp_seq (wp_region ?_)
  rw [sz12]
  show wpOps Try.prog o12 _ [0, 1, 2, 3, 4, 5] a11 w3
  refine p12_0.v (fun o ho => ex_move ho) ?_
  rw [ev f10]
  refine p12_1.v (fun o ho => ex_move ho) ?_
  rw [eval_put (sz' 92 (by omega)), if_neg (by omega), ev f5]
  refine p12_2.v (fun o ho => ex_add ho (m := k) ?_) ?_
  · rw [eval_put (by simp only [put_size]; exact sz' 93 (by omega)), if_pos rfl]
  rw [wrap64 (by omega) (by omega)]
  refine p12_3.v (fun o ho => ex_load ho (u := .agg us0.toArray) (w' := w3) ?_) ?_
  · rw [eval_put (by simp only [put_size]; exact sz' 94 (by omega)), if_neg (by omega), eval_put (by simp only [put_size]; exact sz' 93 (by omega)), if_neg (by omega), eval_put (sz' 92 (by omega)), if_neg (by omega), ev f6]
    exact hl0
  refine p12_4.v (fun o ho => ex_index ho (u := .pointer (some ⟨bb, (k + 1) * 18, none⟩)) (w' := w3) ?_) ?_
  · rw [eval_put (by simp only [put_size]; exact sz' 95 (by omega)), if_neg (by omega), eval_put (by simp only [put_size]; exact sz' 94 (by omega)), if_neg (by omega), eval_put (by simp only [put_size]; exact sz' 93 (by omega)), if_neg (by omega), eval_put (sz' 92 (by omega)), if_pos rfl,
      eval_put (by simp only [put_size]; exact sz' 95 (by omega)), if_neg (by omega), eval_put (by simp only [put_size]; exact sz' 94 (by omega)), if_pos rfl]
    have := run_index (P := Try.prog) (w := w3) u48 hinf bb 0 l.length C ((k : Int) + 1) (by omega) (by omega)
    rw [hsz, show ((k : Int) + 1).toNat = k + 1 by omega] at this
    simpa using this
  refine p12_5.s (fun o ho => ex_store ho (w' := w4) ?_) ?_
  · rw [eval_put (by simp only [put_size]; exact sz' 96 (by omega)), if_pos rfl, eval_put (by simp only [put_size]; exact sz' 96 (by omega)), if_neg (by omega), eval_put (by simp only [put_size]; exact sz' 95 (by omega)), if_pos rfl]
    exact hst0
  rw [put_none]
  generalize hA12 : (((((a11.put (some 92) _).put (some 93) _).put (some 94) _).put (some 95) _).put (some 96) _) = a12
  have t12 : ∀ s, s ≠ 92 → s ≠ 93 → s ≠ 94 → s ≠ 95 → s ≠ 96 → a12.tmps[s]? = a11.tmps[s]? := fun s c1 c2 c3 c4 c5 => by rw [← hA12, put_get c5, put_get c4, put_get c3, put_get c2, put_get c1]
  have s12 : a12.tmps.size = a11.tmps.size := by rw [← hA12]; simp only [put_size]
  have d12 : a12.defers = [] := by rw [← hA12]; exact d11
  clear hA12
  show Exit.then _ _ .normal a12 w4
  simp only [Exit.then]
  -- the frame behind
  have h4 := h1.grown hw4 (l.length * 18)
  have x14 : ∀ n, Ext n g1 w1 (gB g1 w1.heap.size (l.length * 18)) w4 := h1.grown_ext hw4 _
  have x24 : ∀ n, Ext n (gB g1 w1.heap.size 0) w2 (gB g1 w1.heap.size (l.length * 18)) w4 := h1.grown_ext2 hw2 hw4 _
  have x34 : ∀ n, Ext n (gB g1 w1.heap.size 0) w3 (gB g1 w1.heap.size (l.length * 18)) w4 := h1.grown_ext2 hw3 hw4 _
  have hp4 : (gB g1 w1.heap.size (l.length * 18)).prot bb = l.length * 18 := by rw [← hB]; exact gB_prot _ _ _
  generalize gB g1 w1.heap.size (l.length * 18) = g4 at h4 x14 x24 x34 hp4
  have htl : ((turned l k A B).map encE).length = l.length := by simp [turned]
  have hslice : Rep g4 w4 (.slice false ((turned l k A B).map encE)) (.slice (some ⟨bb, 0, none⟩) l.length C) := by
    simp only [Rep]
    refine ⟨some ⟨bb, 0, none⟩, C, by rw [htl], by rw [htl]; exact hCge, by simp, fun _ => ⟨bb, 0, 18, rfl, by rw [htl, hp4]; omega, ?_⟩⟩
    refine RepRows_flat (vss := (vss.set k us1).set (k + 1) us0) (by rw [htl]; simp [k1]) (fun i x vs hx hvs => ?_) fun j v hj => ?_
    · have hx' : ((l.map encE).set k (encE B)).set (k + 1) (encE A) = (turned l k A B).map encE := by simp [turned, List.map_set]
      rw [← hx'] at hx
      by_cases i1 : i = k + 1
      · subst i1
        rw [List.getElem?_set_self (by simp; omega)] at hx hvs
        injection hx with hx
        injection hvs with hvs
        subst hx hvs
        exact ⟨rfl, RepL_ext (x34 0) _ _ (encE_under 0 A) hu0', encE_cell A⟩
      · rw [List.getElem?_set_ne (by omega)] at hx hvs
        by_cases i0 : i = k
        · subst i0
          rw [List.getElem?_set_self (by rw [List.length_map]; omega)] at hx
          rw [List.getElem?_set_self (by omega)] at hvs
          injection hx with hx
          injection hvs with hvs
          subst hx hvs
          exact ⟨rfl, RepL_ext (x24 0) _ _ (encE_under 0 B) hu1, encE_cell B⟩
        · rw [List.getElem?_set_ne (by omega)] at hx hvs
          obtain ⟨m1, m2, m3⟩ := k3 i x vs hx hvs
          refine ⟨m1, RepL_ext (x14 0) _ _ ?_ m2, m3⟩
          rw [List.getElem?_map, Option.map_eq_some_iff] at hx
          obtain ⟨y, _, rfl⟩ := hx
          exact encE_under 0 y
    · rw [cell_of_row _ _ _ _ _ _ hw4n, Nat.zero_add, ← Array.getElem?_toList, hc4', List.getElem?_append_left (List.getElem?_eq_some_iff.1 hj).1]
      exact hj
  refine hrest a12 w4 g4 ⟨fun s d hd => ?_, h4.st, h4.ch, h4.lb, d12, by rw [s12, s11, s10]; exact h.tsize⟩
  simp only [Env.get_cons, Env.get_nil] at hd
  split at hd
  · rename_i hs
    subst hs
    injection hd with hd
    subst hd
    refine ⟨.slice (some ⟨bb, 0, none⟩) l.length C, ?_, hslice, trivial, ?_⟩
    · rw [t12 10 (by omega) (by omega) (by omega) (by omega) (by omega), f10]
    · simp only [Dat.under]
      exact underLL_mk fun x hx => by
        obtain ⟨y, _, rfl⟩ := List.mem_map.1 hx
        exact encE_under _ y
  · split at hd
    · rename_i hs
      subst hs
      injection hd with hd
      subst hd
      obtain ⟨v, hv, hok⟩ := h4.env 8 (.ptr 2 0) rfl
      refine ⟨v, ?_, hok⟩
      rw [t12 8 (by omega) (by omega) (by omega) (by omega) (by omega), t11 8 (by omega) (by omega) (by omega) (by omega), t10 8 (by omega) (by omega) (by omega) (by omega)]
      exact hv
    · cases hd
end
end Go.Mir.A
