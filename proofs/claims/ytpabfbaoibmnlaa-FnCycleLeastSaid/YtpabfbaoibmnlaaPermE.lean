/-
  Contract: the order of least cost.
-/
import Derived.Test.YtpabfbaoibmnlaaPermD
namespace Go.Proofs.Ytpabfbaoibmnlaa
open Go.RowKit Go.Shelf
set_option linter.unusedVariables false
set_option maxRecDepth 100000
attribute [local go_sem] Oper.semAt_some

/-- The best so far, and what it costs; nothing yet: less than nought. -/
def stepBest (cost : List Int → Int) (s : List Int × Int) (x : List Int) : List Int × Int := if s.2 < 0 ∨ cost x < s.2 then (x, cost x) else s
def bestOf (cost : List Int → Int) (xs : List (List Int)) : List Int × Int := xs.foldl (stepBest cost) ([], -1)
theorem bestOf_snoc (cost : List Int → Int) (xs : List (List Int)) (x : List Int) : bestOf cost (xs ++ [x]) = stepBest cost (bestOf cost xs) x := by simp [bestOf]

theorem permutations_any (A : Option Addr) (n c : Nat) (w : World) :
    Calls Try.prog 65 #[.slice A n c] w fun e w' => e = .returned (.func (.func 74) #[] #[.pointer (some ⟨w.heap.size, 0, none⟩)]) ∧ w' = w.alloc (.cells #[.slice A n c] 30) := by
  go_enter Try.func65, Try.ntmps65
  go_wp2
  go_ret
  exact ⟨rfl, rfl⟩

theorem costOf_any (cb : Nat) (A : Option Addr) (c : Nat) (L : List (List Int)) (B : Option Addr) (d : Nat) (x : List Int) (w : World) (hcb : w.heap[cb]? = some (.cells #[.slice A L.length c] 22 (0, 0))) (h : RdM w A L) (hs : Small L) (h2 : RdI w B x) (hl2 : x.length ≤ 1000000000) (hcap : x.length ≤ d) :
    Calls Try.prog 52 #[.slice B x.length d, .pointer (some ⟨cb, 0, none⟩)] w fun e w' => e = .returned (vi (haulCost L x)) ∧ w = w' := by
  have H := Lib.hid (implHaulCost A c L B d x w h h2 hs hl2 hcap)
  have co := cell_of_row w cb 0 _ _ _ hcb
  simp only [List.getElem?_toArray, List.getElem?_cons_zero] at co
  clear hcb h h2
  go_enter Try.func52, Try.ntmps52
  go_wp2_with fail
  refine H.out.mono ?_
  rintro e w' ⟨rfl, rfl⟩
  go_wp2
  go_ret
  exact ⟨rfl, rfl⟩

/-- What the loop's own cells hold, some orders having come. -/
def BestI (w : World) (D : Nat) (cost : List Int → Int) (cf : Value) (pre : List (List Int)) (W : World) : Prop :=
  Below w.heap.size w W ∧ W.heap[w.heap.size]? = some (.cells #[cf] 58 (0, 0)) ∧ W.heap[w.heap.size + 2]? = some (.cells #[vi (bestOf cost pre).2] 3 (0, 0)) ∧
    ∃ B d, W.heap[w.heap.size + 1]? = some (.cells #[.slice B (bestOf cost pre).1.length d] 30 (0, 0)) ∧ OwnI W w.heap.size B (bestOf cost pre).1.length d (bestOf cost pre).1 ∧ ∀ g, B = some ⟨g, 0, none⟩ → D + 6 ≤ g
theorem BestI.far {w A B : World} {D : Nat} {cost : List Int → Int} {cf : Value} {pre : List (List Int)} {row : Option Nat} (h : BestI w D cost cf pre A) (hg : A.grownBy B row) (hr : ∀ r, row = some r → D ≤ r ∧ r < D + 6) (hD : w.heap.size + 3 ≤ D) : BestI w D cost cf pre B := by
  obtain ⟨h1, h2, h3, Ba, d, h4, h5, h6⟩ := h
  have hk : ∀ k, k < w.heap.size + 3 → k < A.heap.size → B.heap[k]? = A.heap[k]? := fun k h1 h2 => hg.block k h2 (fun e => by have := hr k e.symm; omega)
  have hlt : ∀ {k : Nat} {o : Obj}, A.heap[k]? = some o → k < A.heap.size := fun h => (Array.getElem?_eq_some_iff.1 h).1
  exact ⟨h1.grown hg h1.size (fun k e => by have := hr k e; omega), (hk _ (by omega) (hlt h2)).trans h2, (hk _ (by omega) (hlt h3)).trans h3, Ba, d, (hk _ (by omega) (hlt h4)).trans h4,
    h5.far hg (fun g e e2 => by have := h6 g e; have := hr g e2.symm; omega), h6⟩
theorem keeps_of_below {A B : World} (h : Below A.heap.size A B) : KeepsOthers A B := ⟨h.size, fun k o hk _ => (h.block k (Array.getElem?_eq_some_iff.1 hk).1).trans hk⟩
/-- The round's order is the best so far: it is copied, and the two cells are stored. -/
theorem BestI.taken {w W W2 : World} {D c : Nat} {cost : List Int → Int} {cf : Value} {pre : List (List Int)} {A : Option Addr} {x : List Int} (h : BestI w D cost cf pre W) (hb : Below W.heap.size W W2) (ho : OwnI W2 W.heap.size A x.length c x) (hD : w.heap.size + 3 ≤ D) (hW : D + 6 ≤ W.heap.size)
    (hx : bestOf cost (pre ++ [x]) = (x, cost x)) :
    KeepsOthers W ((W2.setCell ⟨w.heap.size + 1, 0, none⟩ (.slice A x.length c)).setCell ⟨w.heap.size + 1 + 1, 0, none⟩ (vi (cost x))) ∧ Kp (w.heap.size + 3) D (D + 2) W ((W2.setCell ⟨w.heap.size + 1, 0, none⟩ (.slice A x.length c)).setCell ⟨w.heap.size + 1 + 1, 0, none⟩ (vi (cost x))) ∧
      BestI w D cost cf (pre ++ [x]) ((W2.setCell ⟨w.heap.size + 1, 0, none⟩ (.slice A x.length c)).setCell ⟨w.heap.size + 1 + 1, 0, none⟩ (vi (cost x))) := by
  obtain ⟨h1, h2, h3, Ba, d, h4, h5, h6⟩ := h
  obtain ⟨W3, hW3⟩ : ∃ W3, W3 = (W2.setCell ⟨w.heap.size + 1, 0, none⟩ (.slice A x.length c)).setCell ⟨w.heap.size + 1 + 1, 0, none⟩ (vi (cost x)) := ⟨_, rfl⟩
  have hsz : W3.heap.size = W2.heap.size := by rw [hW3]; simp
  have hk : ∀ k, k ≠ w.heap.size + 1 → k ≠ w.heap.size + 1 + 1 → W3.heap[k]? = W2.heap[k]? := fun k e1 e2 => by
    rw [hW3, Below.heap_setCell _ _ _ k (by exact e2), Below.heap_setCell _ _ _ k (by exact e1)]
  have hlt : ∀ {k : Nat} {o : Obj}, W.heap[k]? = some o → k < W.heap.size := fun h => (Array.getElem?_eq_some_iff.1 h).1
  have g1 : W3.heap[w.heap.size + 1]? = some (.cells #[.slice A x.length c] 30 (0, 0)) := by
    rw [hW3, Below.heap_setCell _ _ _ _ (by show w.heap.size + 1 ≠ w.heap.size + 1 + 1; omega), heap_setCell_same W2 (w.heap.size + 1) 0 _ _ _ ((hb.block _ (hlt h4)).trans h4)]
    rfl
  have g2 : W3.heap[w.heap.size + 2]? = some (.cells #[vi (cost x)] 3 (0, 0)) := by
    have : (W2.setCell ⟨w.heap.size + 1, 0, none⟩ (.slice A x.length c)).heap[w.heap.size + 1 + 1]? = some (.cells #[vi (bestOf cost pre).2] 3 (0, 0)) := by
      rw [Below.heap_setCell _ _ _ _ (by show w.heap.size + 1 + 1 ≠ w.heap.size + 1; omega)]
      exact (hb.block _ (hlt h3)).trans h3
    rw [hW3]
    have := heap_setCell_same _ (w.heap.size + 1 + 1) 0 _ _ (vi (cost x)) this
    exact this
  have hbw : Below w.heap.size w W3 := by
    rw [hW3]
    exact ((h1.trans (hb.mono h1.size)).setCell (p := ⟨w.heap.size + 1, 0, none⟩) (by simp) _).setCell (p := ⟨w.heap.size + 1 + 1, 0, none⟩) (by simp; omega) _
  rw [← hW3]
  refine ⟨?_, ⟨by have := hb.size; omega, fun k hk' => ?_⟩, hbw, ?_, ?_, A, c, ?_, ?_, fun g e => ?_⟩
  · rw [hW3]; exact ((keeps_of_below hb).trans (KeepsOthers.setCell _ _ _)).trans (KeepsOthers.setCell _ _ _)
  · rw [hk k (by omega) (by omega)]
    by_cases hlk : k < W.heap.size
    · exact hb.block k hlk
    · omega
  · rw [hk _ (by omega) (by omega)]; exact (hb.block _ (hlt h2)).trans h2
  · rw [hx]; exact g2
  · rw [hx]; exact g1
  · rw [hx]
    exact (ho.kept (by omega) (fun g h1' h2' _ => hk g (by omega) (by omega))).mono (by omega)
  · have := (ho.in_ g (.inl e)).1; omega


set_option maxHeartbeats 8000000 in
theorem leastOrder_any (cb : Nat) (A : Option Addr) (c : Nat) (L : List (List Int)) (m : Nat) (w : World) (hcb : w.heap[cb]? = some (.cells #[.slice A L.length c] 22 (0, 0))) (h : RdM w A L) (hs : Small L) (hm : m ≤ 100) :
    Calls Try.prog 51 #[vi m, .func (.func 52) #[] #[.pointer (some ⟨cb, 0, none⟩)]] w (NewI w (bestOf (haulCost L) (exts (ups m) m [])).1) := by
  have hcbl := (Array.getElem?_eq_some_iff.1 hcb).1
  have HCB := Lib.hid hcb
  have HRM := Lib.hid h
  have HSM := Lib.hid hs
  obtain ⟨cf, hcf⟩ : ∃ cf, cf = Value.func (.func 52) #[] #[.pointer (some ⟨cb, 0, none⟩)] := ⟨_, rfl⟩
  clear hcb h hs
  refine (callsIn_wide (n := 9)).1 ?_
  refine callsIn_of_wp_marks Try.func51 rfl trivial ?_ rfl
  simp only [Try.ntmps51, List.size_toArray, List.length_cons, List.length_nil, Nat.reduceAdd, Nat.reduceSub, Array.replicate_succ, Array.replicate_zero, List.push_toArray, List.append_toArray, List.nil_append, List.cons_append]
  gi_wp2
  refine ⟨trivial, ?_⟩
  refine (callsIn_wide.2 (indices_any m _ hm)).mono ?_
  rintro e w1 ⟨A1, c1, rfl, ho1, hb1⟩
  gi_wp2
  refine ⟨trivial, ?_⟩
  refine (callsIn_wide.2 (permutations_any _ _ _ _)).mono ?_
  rintro e w2 ⟨rfl, rfl⟩
  gi_wp2
  have hz1 : w.heap.size + 3 ≤ w1.heap.size := by have := hb1.size; simp at this; omega
  have hs1 : (w1.alloc (.cells #[.slice A1 (ups m).length c1] 30)).heap.size = w1.heap.size + 1 := by simp
  have hb0 : Below w.heap.size w w1 := ((((Below.refl _ w).alloc (Nat.le_refl _) _).alloc (by simp) _).alloc (by simp; omega) _).trans (hb1.mono (by simp; omega))
  have hA1 : ∀ b o, A1 = some ⟨b, o, none⟩ → w.heap.size + 3 ≤ b ∧ b < w1.heap.size + 1 := fun b o e => by
    rcases ho1.form with ⟨rfl, _⟩ | ⟨g, rfl, h1, h2⟩
    · cases e
    · injection e with e; injection e with e; simp at h1; omega
  have h0 : BestI w (w1.heap.size + 1) (haulCost L) cf [] (w1.alloc (.cells #[.slice A1 (ups m).length c1] 30)) := by
    have hk : ∀ k, k < w.heap.size + 3 → (w1.alloc (.cells #[.slice A1 (ups m).length c1] 30)).heap[k]? = (((w.alloc (.cells #[cf] 58)).alloc (.cells #[.slice none 0 0] 30)).alloc (.cells #[vi (-1)] 3)).heap[k]? := fun k hk => by
      rw [Below.heap_alloc _ _ _ (by omega), hcf]
      exact hb1.block k (by simp; omega)
    refine ⟨hb0.alloc hb0.size _, ?_, ?_, none, 0, ?_, OwnI.nil_ _ _, fun g e => by cases e⟩
    · rw [hk _ (by omega), Below.heap_alloc _ _ _ (by simp; omega), Below.heap_alloc _ _ _ (by simp)]
      exact heap_alloc_new w _
    · rw [hk _ (by omega)]
      have := heap_alloc_new ((w.alloc (.cells #[cf] 58)).alloc (.cells #[.slice none 0 0] 30)) (.cells #[vi (-1)] 3)
      rw [World.size_alloc, World.size_alloc] at this
      exact this
    · rw [hk _ (by omega), Below.heap_alloc _ _ _ (by simp)]
      have := heap_alloc_new (w.alloc (.cells #[cf] 58)) (.cells #[.slice none 0 0] 30)
      rw [World.size_alloc] at this
      exact this
  have hls : RdI (w1.alloc (.cells #[.slice A1 (ups m).length c1] 30)) A1 (ups m) := ho1.rd.alloc _
  have hlb := heap_alloc_new w1 (.cells #[.slice A1 (ups m).length c1] 30)
  clear hb1 ho1 hb0
  obtain ⟨wR, hwR⟩ : ∃ wR, wR = w1.alloc (.cells #[.slice A1 (ups m).length c1] 30) := ⟨_, rfl⟩
  rw [← hwR] at h0 hls hlb hs1 ⊢
  have hul : (ups m).length = m := ups_length m
  rw [← hcf]
  refine range_orders (lbk := w1.heap.size) (lc := c1) (lo := w.heap.size + 3) (LA := A1) (Lst := ups m) rfl (by omega) (by omega) (fun b o e => by rw [hs1]; exact hA1 b o e) hlb hls (BestI w (w1.heap.size + 1) (haulCost L) cf)
    (fun pre A B row hi hg hr => hi.far hg (fun r e => by have := hr r e; omega) (by omega)) h0
    { tmps := #[vi m, cf, undef, .pointer (some ⟨w.heap.size, 0, none⟩), .slice none 0 0, .pointer (some ⟨w.heap.size + 1, 0, none⟩), .pointer (some ⟨w.heap.size + 1 + 1, 0, none⟩), .slice (some ⟨wR.heap.size + 2 + 1, 0, none⟩) (ups m).length (ups m).length, undef, vi m, .slice A1 (ups m).length c1,
        .func (.func 74) #[] #[.pointer (some ⟨w1.heap.size, 0, none⟩)], .slice (some ⟨wR.heap.size + 2 + 1, 0, none⟩) (ups m).length (ups m).length, undef, undef, undef, undef, undef, undef, undef, undef, undef, undef, undef, undef, undef, undef], defers := [] } ?assign ?body ?done
  case assign =>
    intro k l W K hK
    clear hs1 hul hcf hwR h0 hls hlb
    gi_wp2
    exact hK
  case body =>
    rintro k l pre x W ⟨hbw, hc0, hc2, B, d, hc1, hob, hB⟩ hst hx
    have c0 := cell_of_row W w.heap.size 0 _ _ _ hc0
    have c1' := cell_of_row W (w.heap.size + 1) 0 _ _ _ hc1
    have c2 := cell_of_row W (w.heap.size + 2) 0 _ _ _ hc2
    simp only [List.getElem?_toArray, List.getElem?_cons_zero] at c0 c1' c2
    have hrx : RdI W (some ⟨wR.heap.size + 2 + 1, 0, none⟩) x := hst.arr.rd
    have HCO : Hid (Calls Try.prog 52 #[.slice (some ⟨wR.heap.size + 2 + 1, 0, none⟩) (ups m).length (ups m).length, .pointer (some ⟨cb, 0, none⟩)] W fun e w' => e = .returned (vi (haulCost L x)) ∧ W = w') := Lib.hid (by
      have := costOf_any cb A c L (some ⟨wR.heap.size + 2 + 1, 0, none⟩) (ups m).length x W ((hbw.block cb hcbl).trans HCB.out) (HRM.out.below hbw) HSM.out hrx (by rw [hx, hul]; omega) (by omega)
      rw [hx] at this
      exact this)
    have HCL : Hid (Calls Try.prog 67 #[.slice (some ⟨wR.heap.size + 2 + 1, 0, none⟩) (ups m).length (ups m).length] W (NewI W x)) := Lib.hid (by
      have := clone_any (some ⟨wR.heap.size + 2 + 1, 0, none⟩) (ups m).length x W hrx (by rw [hx, hul]; omega)
      rw [hx] at this
      exact this)
    have HST := Lib.hid hst
    have HOB := Lib.hid hob
    have HBW := Lib.hid hbw
    have HBB := Lib.hid hB
    have HC0 := Lib.hid hc0
    have HC1 := Lib.hid hc1
    have HC2 := Lib.hid hc2
    have HSN := Lib.hid (bestOf_snoc (haulCost L) pre x)
    have HX := Lib.hid hx
    have HS1 := Lib.hid hs1
    have hR2 := hst.size
    rw [hcf] at c0
    obtain ⟨bl, hbl⟩ : ∃ bl, bl = (bestOf (haulCost L) pre).2 := ⟨_, rfl⟩
    obtain ⟨cx, hcx⟩ : ∃ cx, cx = haulCost L x := ⟨_, rfl⟩
    have HBL := Lib.hid hbl
    have HCX := Lib.hid hcx
    rw [← hbl] at c2
    rw [← hcx] at HCO
    clear hst hob hbw hB hc0 hc1 hc2 hx hs1 hul hwR h0 hls hlb hbl hcx
    have hpost : BestI w (w1.heap.size + 1) (haulCost L) cf pre W := ⟨HBW.out, HC0.out, HC2.out, B, d, HC1.out, HOB.out, HBB.out⟩
    have HPO := Lib.hid hpost
    have c2b : W.cell? ⟨w.heap.size + 1 + 1, 0, none⟩ = some (vi bl) := c2
    have f1 : ∀ W2 : World, Below W.heap.size W W2 → W2.cell? ⟨w.heap.size + 1, 0, none⟩ = some (.slice B (bestOf (haulCost L) pre).1.length d) ∧ W2.frozen? ⟨w.heap.size + 1, 0, none⟩ = false ∧ W2.cell? ⟨w.heap.size + 1 + 1, 0, none⟩ = some (vi bl) ∧ W2.frozen? ⟨w.heap.size + 1 + 1, 0, none⟩ = false := fun W2 hb => by
      have k1 := (hb.block _ (Array.getElem?_eq_some_iff.1 HC1.out).1).trans HC1.out
      have k2 := (hb.block _ (Array.getElem?_eq_some_iff.1 HC2.out).1).trans HC2.out
      refine ⟨?_, frozen_of_row W2 _ _ _ _ k1, ?_, frozen_of_row W2 _ _ _ _ k2⟩
      · have := cell_of_row W2 (w.heap.size + 1) 0 _ _ _ k1; simpa using this
      · have := cell_of_row W2 (w.heap.size + 2) 0 _ _ _ k2; rw [HBL.out]; simpa using this
    have HF1 := Lib.hid f1
    clear hpost f1 c2
    gi_wp2
    refine ⟨trivial, fun h => by simp [Fence.wide] at h, ?_⟩
    refine (CallsIn.inRound l (callsIn_wide.2 HCO.out)).mono ?_
    rintro e w' ⟨rfl, rfl⟩
    by_cases hyes : bl < 0 ∨ cx < bl
    · have HT : Hid (bestOf (haulCost L) (pre ++ [x]) = (x, haulCost L x)) := Lib.hid (by rw [HSN.out]; simp only [stepBest]; rw [← HBL.out, ← HCX.out, if_pos hyes])
      have HTK := Lib.hid (fun (W2 : World) (A2 : Option Addr) (c2 : Nat) (hb : Below W.heap.size W W2) (ho : OwnI W2 W.heap.size A2 x.length c2 x) => BestI.taken HPO.out hb ho (by omega) (by have := HS1.out; omega) HT.out)
      have hcases : (bl < 0) ∨ (¬ bl < 0 ∧ cx < bl) := by omega
      clear hyes
      rcases hcases with hb0 | ⟨hb0, hb1⟩
      all_goals
        gi_wp2
        refine ⟨trivial, fun h => by simp [Fence.wide] at h, ?_⟩
        refine (CallsIn.inRound l (callsIn_wide.2 HCL.out)).mono ?_
        rintro e W2 ⟨A2, c2', rfl, ho2, hb2⟩
        have HO2 := Lib.hid ho2
        have HB2 := Lib.hid hb2
        obtain ⟨k1, k2, k3, k4⟩ := HF1.out W2 hb2
        have HFin := Lib.hid (HTK.out W2 A2 c2' hb2 ho2)
        rw [← HCX.out] at HFin
        clear ho2 hb2 c1' c2b
        gi_wp2
        exact ⟨HFin.out.1, by rw [HS1.out]; exact HFin.out.2.1, HFin.out.2.2⟩
    · have HT : Hid (bestOf (haulCost L) (pre ++ [x]) = bestOf (haulCost L) pre) := Lib.hid (by rw [HSN.out]; simp only [stepBest]; rw [← HBL.out, ← HCX.out, if_neg hyes])
      have hb0 : 0 ≤ bl := by omega
      have hb1 : bl ≤ cx := by omega
      have HFin : Hid (BestI w (w1.heap.size + 1) (haulCost L) cf (pre ++ [x]) W) := Lib.hid (by
        have := HPO.out
        unfold BestI at this ⊢
        rw [HT.out]
        exact this)
      clear hyes
      gi_wp2
      exact ⟨KeepsOthers.refl _, ⟨Nat.le_refl _, fun _ _ => rfl⟩, HFin.out⟩
  case done =>
    rintro W ⟨hbw, hc0, hc2, B, d, hc1, hob, hB⟩ hK
    have co := cell_of_row W (w.heap.size + 1) 0 _ _ _ hc1
    simp only [List.getElem?_toArray, List.getElem?_cons_zero] at co
    have HOB := Lib.hid hob
    rw [hul] at co HOB
    have HBW := Lib.hid hbw
    have HBB := Lib.hid hB
    clear hob hbw hB hc1 hc2 hc0 h0 hls hlb
    gi_wp2
    refine ⟨by simp, .inl ⟨_, _, rfl, run_takeDeferred hK, ?_⟩⟩
    refine ⟨_, results_tmp rfl _ _ _, B, d, rfl, HOB.out.far (grownBy_putObj' W _ _) (fun g e e2 => by injection e2 with e2; have := HBB.out g e; omega), HBW.out.grown (grownBy_putObj' W _ _) HBW.out.size (fun k e => by injection e with e; omega)⟩
end Go.Proofs.Ytpabfbaoibmnlaa
