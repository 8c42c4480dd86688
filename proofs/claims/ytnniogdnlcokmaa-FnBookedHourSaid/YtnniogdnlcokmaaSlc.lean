/-
  copy, clear, append on slices of any encoded elements that are the call's own. No program is named here.
-/
import Derived.Test.YtnniogdnlcokmaaBox
import Derived.Laws.CopyOwn
import Derived.Deep.DeepAppendRoom
import Derived.Lib.AppendZerosOnto
import Derived.Lib.Overlaps
namespace Go.Proofs.Ytnniogdnlcokmaa
open Go.RowKit
set_option linter.unusedVariables false
set_option maxRecDepth 100000

section
variable {α : Type} {e : Enc α} {E : TypeId}
theorem flat_take (e : Enc α) (l : List α) (k : Nat) (hk : k ≤ l.length) : (l.take k).flatMap e.f = (l.flatMap e.f).take (k * e.s) := by
  have h := congrArg (List.flatMap e.f) (List.take_append_drop k l)
  rw [List.flatMap_append] at h
  have hl : ((l.take k).flatMap e.f).length = k * e.s := by rw [flat_length, List.length_take, Nat.min_eq_left hk]
  rw [← h, ← hl, List.take_left]
theorem flat_drop (e : Enc α) (l : List α) (k : Nat) (hk : k ≤ l.length) : (l.drop k).flatMap e.f = (l.flatMap e.f).drop (k * e.s) := by
  have h := congrArg (List.flatMap e.f) (List.take_append_drop k l)
  rw [List.flatMap_append] at h
  have hl : ((l.take k).flatMap e.f).length = k * e.s := by rw [flat_length, List.length_take, Nat.min_eq_left hk]
  rw [← h, ← hl, List.drop_left]
/-- What stands behind cells that are laid over a row from element i on. -/
theorem Own.laid {w : World} {base g n c : Nat} {l cs : List α} (h : Own e E w base (some ⟨g, 0, none⟩) n c l) (i : Nat) (hi : i ≤ n) (hfit : i + cs.length ≤ c) :
    ∃ cur : Array Value, w.heap[g]? = some (.cells cur E (0, 0)) ∧ i * e.s + (cs.flatMap e.f).length ≤ cur.size ∧
      Own e E (w.setRow g (cur.toList.take (i * e.s) ++ cs.flatMap e.f ++ cur.toList.drop (i * e.s + (cs.flatMap e.f).length)).toArray) base (some ⟨g, 0, none⟩) (max n (i + cs.length)) c (l.take i ++ cs ++ l.drop (i + cs.length)) ∧
      w.grownBy (w.setRow g (cur.toList.take (i * e.s) ++ cs.flatMap e.f ++ cur.toList.drop (i * e.s + (cs.flatMap e.f).length)).toArray) (some g) := by
  have hln := h.len
  rcases h.2 with ⟨e1, _⟩ | ⟨g', cap, cur, e1, hg, hh, hc, hm, hs, ht⟩
  · cases e1
  · injection e1 with e1 e2 e3
    injection e1 with e1
    injection e1 with e1
    subst e1; subst e3
    have hC : (cs.flatMap e.f).length = cs.length * e.s := flat_length e cs
    have hfit2 : i * e.s + (cs.flatMap e.f).length ≤ cur.size := by
      rw [hC, hs, ← Nat.add_mul]; exact Nat.mul_le_mul_right _ hfit
    refine ⟨cur, hh, hfit2, ⟨?_, .inr ⟨g, c, _, rfl, hg, setRow_heap w g cur _ E _ hh, by omega, hm, ?_, ?_⟩⟩, ⟨rfl, rfl, rfl, by simp [World.setRow], fun k hk hne => setRow_other w g k _ (fun e => hne (by rw [e]))⟩⟩
    · rw [flat_length]
      congr 1
      simp
      omega
    · simp only [List.size_toArray, List.length_append, List.length_take, List.length_drop, Array.length_toList]
      omega
    · have hL : (l.flatMap e.f).length = n * e.s := by rw [flat_length, hln]
      have hcur : cur.toList = l.flatMap e.f ++ cur.toList.drop (n * e.s) := by
        rw [← ht, List.take_append_drop]
      have hio : i * e.s ≤ (l.flatMap e.f).length := by rw [hL]; exact Nat.mul_le_mul_right _ hi
      have hnew : (l.take i ++ cs ++ l.drop (i + cs.length)).flatMap e.f = (l.flatMap e.f).take (i * e.s) ++ cs.flatMap e.f ++ (l.flatMap e.f).drop (i * e.s + (cs.flatMap e.f).length) := by
        rw [List.flatMap_append, List.flatMap_append, flat_take e l i (by omega), hC, ← Nat.add_mul]
        rcases Nat.le_total (i + cs.length) l.length with h1 | h1
        · rw [flat_drop e l _ h1]
        · rw [List.drop_eq_nil_of_le h1, List.drop_eq_nil_of_le (by rw [flat_length]; exact Nat.mul_le_mul_right _ h1)]; rfl
      have hlen2 : ((l.take i ++ cs ++ l.drop (i + cs.length)).flatMap e.f).length = max n (i + cs.length) * e.s := by
        rw [flat_length]; congr 1; simp; omega
      rw [hnew] at hlen2 ⊢
      generalize hR : cur.toList.drop (n * e.s) = R at hcur
      rw [hcur]
      generalize hLL : l.flatMap e.f = L at *
      generalize hCC : cs.flatMap e.f = C at *
      rw [List.take_append_of_le_length hio, List.drop_append, ← List.append_assoc, ← hlen2, List.take_left]

theorem flat_one {l : List α} : ∀ u ∈ l.flatMap e.f, u.oneCell' = true := by
  intro u hu
  obtain ⟨y, _, hy⟩ := List.mem_flatMap.1 hu
  exact e.one y u hy
/-- copy(d, s), d a part of a slice of the call's own. -/
theorem run_copy_enc {P : Program} (w : World) (dT sT ty : TypeId) (hu : P.underlying dT = some (.slice E)) (hsz : (P.info? E).map (·.size) = some e.s)
    (g i dLen dCap : Nat) (ad : Addr) (sLen sCap base n c : Nat) (l cs : List α) (h : Own e E w base (some ⟨g, 0, none⟩) n c l) (hn : cs.length = Nat.min sLen dLen)
    (hsrc : ∀ j u, (cs.flatMap e.f)[j]? = some u → w.cell? (ad.add j) = some u) (hi : i ≤ n) (hfit : i + cs.length ≤ c) :
    ∃ w', (Builtin.copy_ #[dT, sT] ty #[.slice (some ⟨g, i * e.s, none⟩) dLen dCap, .slice (some ad) sLen sCap]).run P w = .ok (goInt cs.length) w' ∧
      Own e E w' base (some ⟨g, 0, none⟩) (max n (i + cs.length)) c (l.take i ++ cs ++ l.drop (i + cs.length)) ∧ w.grownBy w' (some g) := by
  obtain ⟨cur, hg, hfit2, ho, hgr⟩ := h.laid (cs := cs) i hi hfit
  refine ⟨_, ?_, ho, hgr⟩
  have hl := run_loadCells_list (P := P) w ad (cs.flatMap e.f) hsrc
  have hst := run_storeCells_at P g (i * e.s) E (cs.flatMap e.f) 0 cur w hg (by simpa using hfit2) flat_one
  rw [flat_length] at hl
  cases hq : P.info? E with
  | none => simp [hq] at hsz
  | some i0 =>
    have hi0 : i0.size = e.s := by simpa [hq] using hsz
    generalize cs.flatMap e.f = C at *
    simp [Builtin.copy_, run_underlying hu, Builtin.lenOf, Builtin.firstCells, sizeOf, typeInfo, hq, hi0, ← hn, hl, hst]
theorem wpList_copy_enc {P : Program} {w : World} {ops : Array Oper} {rest : List Oper} {o : Oper} {a : Act} {Q : Exit → Act → World → Prop} (hgd : o.guard = none) (d s : Operand) (dT sT : TypeId)
    (ho : o.op = .call { callee := .builtin .copy, args := #[d, s], argTypes := #[dT, sT] }) (hu : P.underlying dT = some (.slice E)) (hsz : (P.info? E).map (·.size) = some e.s)
    (g i dLen dCap : Nat) (ad : Addr) (sLen sCap base n c : Nat) (l cs : List α) (hd : a.eval d = .slice (some ⟨g, i * e.s, none⟩) dLen dCap) (hs : a.eval s = .slice (some ad) sLen sCap)
    (h : Own e E w base (some ⟨g, 0, none⟩) n c l) (hn : cs.length = Nat.min sLen dLen)
    (hsrc : ∀ j u, (cs.flatMap e.f)[j]? = some u → w.cell? (ad.add j) = some u) (hi : i ≤ n) (hfit : i + cs.length ≤ c)
    (hK : ∀ w', Own e E w' base (some ⟨g, 0, none⟩) (max n (i + cs.length)) c (l.take i ++ cs ++ l.drop (i + cs.length)) → w.grownBy w' (some g) → wpList P ops Q rest (a.put o.dst (goInt cs.length)) w') :
    wpList P ops Q (o :: rest) a w := by
  refine wpList_plain hgd fun K hKK => ?_
  obtain ⟨w', hrun, h2, h3⟩ := run_copy_enc (P := P) w dT sT o.type hu hsz g i dLen dCap ad sLen sCap base n c l cs h hn hsrc hi hfit
  unfold Oper.wp
  simp [execOp, ho, resolve, invoke, builtin, hd, hs, hrun, Result.andThen]
  exact hKK _ _ (hK w' h2 h3)
theorem step_copy_enc {P : Program} {ops : Array Oper} {o : Oper} {a : Act} {w : World} {K : Act → World → Prop} {Q : Exit → Act → World → Prop} {G : Prop} (hgd : o.guard = none) (d s : Operand) (dT sT : TypeId)
    (ho : o.op = .call { callee := .builtin .copy, args := #[d, s], argTypes := #[dT, sT] }) (hu : P.underlying dT = some (.slice E)) (hsz : (P.info? E).map (·.size) = some e.s)
    (g i dLen dCap : Nat) (ad : Addr) (sLen sCap base n c : Nat) (l cs : List α) (hd : a.eval d = .slice (some ⟨g, i * e.s, none⟩) dLen dCap) (hs : a.eval s = .slice (some ad) sLen sCap)
    (h : Own e E w base (some ⟨g, 0, none⟩) n c l) (hn : cs.length = Nat.min sLen dLen)
    (hsrc : ∀ j u, (cs.flatMap e.f)[j]? = some u → w.cell? (ad.add j) = some u) (hi : i ≤ n) (hfit : i + cs.length ≤ c)
    (hK : ∀ w', Own e E w' base (some ⟨g, 0, none⟩) (max n (i + cs.length)) c (l.take i ++ cs ++ l.drop (i + cs.length)) → w.grownBy w' (some g) → K (a.put o.dst (goInt cs.length)) w') :
    if Region.wanted o (yielded ops a.tmps) = true then Oper.wp P o a w K Q else G := by
  rw [if_pos (by simp [Region.wanted, hgd])]
  obtain ⟨w', hrun, h2, h3⟩ := run_copy_enc (P := P) w dT sT o.type hu hsz g i dLen dCap ad sLen sCap base n c l cs h hn hsrc hi hfit
  unfold Oper.wp
  simp [execOp, ho, resolve, invoke, builtin, hd, hs, hrun, Result.andThen]
  exact hK w' h2 h3

/-- append(s, x...) where there is room: in place. -/
theorem run_append_room {P : Program} [Inhabited α] (w : World) (T ty : TypeId) (hu : P.underlying T = some (.slice E)) (hsz : (P.info? E).map (·.size) = some e.s)
    (g n c base : Nat) (l cs : List α) (h : Own e E w base (some ⟨g, 0, none⟩) n c l) (ad : Addr) (m cc : Nat) (hm : cs.length = m)
    (hsrc : ∀ j u, (cs.flatMap e.f)[j]? = some u → w.cell? (ad.add j) = some u) (hroom : n + m ≤ c) :
    ∃ w', (Builtin.append_ #[T, T] ty #[.slice (some ⟨g, 0, none⟩) n c, .slice (some ad) m cc]).run P w = .ok (.slice (some ⟨g, 0, none⟩) (n + m) c) w' ∧
      Own e E w' base (some ⟨g, 0, none⟩) (n + m) c (l ++ cs) ∧ w.grownBy w' (some g) := by
  cases hq : P.info? E with
  | none => simp [hq] at hsz
  | some i0 =>
    have hi0 : i0.size = e.s := by simpa [hq] using hsz
    obtain ⟨w', h1, h2, h3⟩ := run_append_own_spare (P := P) (w := w) base T ty E i0 e.s hu hq hi0 g n c (l.flatMap e.f) h ad m cc (cs.flatMap e.f) (by rw [flat_length, hm]) hsrc flat_one hroom
    exact ⟨w', h1, by unfold Own; rw [List.flatMap_append]; exact h2, h3⟩
theorem step_append_room_enc {P : Program} [Inhabited α] {ops : Array Oper} {o : Oper} {a : Act} {w : World} {K : Act → World → Prop} {Q : Exit → Act → World → Prop} {G : Prop} (hgd : o.guard = none) (s x : Operand) (T : TypeId)
    (ho : o.op = .call { callee := .builtin .append, args := #[s, x], argTypes := #[T, T] }) (hu : P.underlying T = some (.slice E)) (hsz : (P.info? E).map (·.size) = some e.s)
    (g n c base : Nat) (l cs : List α) (h : Own e E w base (some ⟨g, 0, none⟩) n c l) (ad : Addr) (m cc : Nat) (hs : a.eval s = .slice (some ⟨g, 0, none⟩) n c) (hx : a.eval x = .slice (some ad) m cc) (hm : cs.length = m)
    (hsrc : ∀ j u, (cs.flatMap e.f)[j]? = some u → w.cell? (ad.add j) = some u) (hroom : n + m ≤ c)
    (hK : ∀ w', Own e E w' base (some ⟨g, 0, none⟩) (n + m) c (l ++ cs) → w.grownBy w' (some g) → K (a.put o.dst (.slice (some ⟨g, 0, none⟩) (n + m) c)) w') :
    if Region.wanted o (yielded ops a.tmps) = true then Oper.wp P o a w K Q else G := by
  rw [if_pos (by simp [Region.wanted, hgd])]
  obtain ⟨w', hrun, h2, h3⟩ := run_append_room (P := P) w T o.type hu hsz g n c base l cs h ad m cc hm hsrc hroom
  unfold Oper.wp
  simp [execOp, ho, resolve, invoke, builtin, hs, hx, hrun, Result.andThen]
  exact hK w' h2 h3

/-- The first k of a slice stay where cells behind them are turned. -/
theorem Own.behind {w : World} {base g n c : Nat} {l : List α} (h : Own e E w base (some ⟨g, 0, none⟩) n c l) (k o : Nat) (zs : List Value) (hk : k ≤ n) (ho : k * e.s ≤ o) (hfit : o + zs.length ≤ c * e.s) :
    ∃ cur : Array Value, w.heap[g]? = some (.cells cur E (0, 0)) ∧ o + zs.length ≤ cur.size ∧
      Own e E (w.setRow g (cur.toList.take o ++ zs ++ cur.toList.drop (o + zs.length)).toArray) base (some ⟨g, 0, none⟩) k c (l.take k) ∧
      w.grownBy (w.setRow g (cur.toList.take o ++ zs ++ cur.toList.drop (o + zs.length)).toArray) (some g) := by
  have h' : Own e E w base (some ⟨g, 0, none⟩) k c (l.take k) := by
    rcases Nat.lt_or_ge k n with h1 | h1
    · exact h.cut k hk (by omega)
    · obtain rfl : k = n := by omega
      rw [← h.len, List.take_length, h.len]; exact h
  rcases h'.2 with ⟨e1, _⟩ | ⟨g', cap, cur, e1, hg, hh, hc, hm, hs, ht⟩
  · cases e1
  · injection e1 with e1 e2 e3
    injection e1 with e1
    injection e1 with e1
    subst e1; subst e3
    refine ⟨cur, hh, by omega, ⟨h'.1, .inr ⟨g, c, _, rfl, hg, setRow_heap w g cur _ E _ hh, by omega, hm, ?_, ?_⟩⟩, ⟨rfl, rfl, rfl, by simp [World.setRow], fun k hk hne => setRow_other w g k _ (fun e => hne (by rw [e]))⟩⟩
    · simp only [List.size_toArray, List.length_append, List.length_take, List.length_drop, Array.length_toList]
      omega
    · rw [← ht, List.append_assoc, List.take_append_of_le_length (by simp only [List.length_take, Array.length_toList]; omega), List.take_take, Nat.min_eq_left ho]
/-- clear(s[..]) behind the first k. -/
theorem run_clear_enc {P : Program} (w : World) (T ty : TypeId) (z : Value) (hu : P.underlying T = some (.slice E)) (hz : ∀ w, (zeroValue E).run P w = .ok z w) (hz1 : ∀ m, ∀ u ∈ (Builtin.zeroCells z.cells m).toList, u.oneCell' = true) (hzs : z.cells.size = e.s)
    (g k m cc base n c : Nat) (l : List α) (h : Own e E w base (some ⟨g, 0, none⟩) n c l) (hk : k ≤ n) (hm : 0 < m) (hfit : k + m ≤ c) :
    ∃ w', (Builtin.clear_ #[T] ty #[.slice (some ⟨g, k * e.s, none⟩) m cc]).run P w = .ok (.tuple #[]) w' ∧ Own e E w' base (some ⟨g, 0, none⟩) k c (l.take k) ∧ w.grownBy w' (some g) := by
  have hzl : (Builtin.zeroCells z.cells m).toList.length = m * e.s := by simp [Builtin.zeroCells, hzs]
  obtain ⟨cur, hg, hfit2, ho, hgr⟩ := h.behind k (k * e.s) (Builtin.zeroCells z.cells m).toList hk (Nat.le_refl _) (by rw [hzl, ← Nat.add_mul]; exact Nat.mul_le_mul_right _ hfit)
  refine ⟨_, ?_, ho, hgr⟩
  have hst := run_storeCells_at P g (k * e.s) E (Builtin.zeroCells z.cells m).toList 0 cur w hg (by simpa using hfit2) (hz1 m)
  match m, hm with
  | m + 1, _ =>
    simp only [Nat.add_zero] at hst
    have e1 : ∀ x : World, (Builtin.clear_ #[T] ty #[.slice (some ⟨g, k * e.s, none⟩) (m + 1) cc]).run P x = ((storeCells ⟨g, k * e.s, none⟩ (Builtin.zeroCells z.cells (m + 1)).toList).run P x).andThen fun _ w' => Result.ok (Value.tuple #[]) w' := fun x => by
      simp [Builtin.clear_, run_underlying hu, hz]
    rw [e1, hst]
    rfl

theorem wpList_clear_enc {P : Program} {w : World} {ops : Array Oper} {rest : List Oper} {o : Oper} {a : Act} {Q : Exit → Act → World → Prop} (hgd : o.guard = none) (x : Operand) (T : TypeId)
    (ho : o.op = .call { callee := .builtin .clear, args := #[x], argTypes := #[T] }) (z : Value) (hu : P.underlying T = some (.slice E)) (hz : ∀ w, (zeroValue E).run P w = .ok z w) (hz1 : ∀ m, ∀ u ∈ (Builtin.zeroCells z.cells m).toList, u.oneCell' = true) (hzs : z.cells.size = e.s)
    (g k m cc base n c : Nat) (l : List α) (hx : a.eval x = .slice (some ⟨g, k * e.s, none⟩) m cc) (h : Own e E w base (some ⟨g, 0, none⟩) n c l) (hk : k ≤ n) (hm : 0 < m) (hfit : k + m ≤ c)
    (hK : ∀ w', Own e E w' base (some ⟨g, 0, none⟩) k c (l.take k) → w.grownBy w' (some g) → wpList P ops Q rest (a.put o.dst (.tuple #[])) w') :
    wpList P ops Q (o :: rest) a w := by
  refine wpList_plain hgd fun K hKK => ?_
  obtain ⟨w', hrun, h2, h3⟩ := run_clear_enc (P := P) w T o.type z hu hz hz1 hzs g k m cc base n c l h hk hm hfit
  unfold Oper.wp
  simp [execOp, ho, resolve, invoke, builtin, hx, hrun, Result.andThen]
  exact hKK _ _ (hK w' h2 h3)
theorem step_append_room2 {P : Program} [Inhabited α] {ops : Array Oper} {o : Oper} {a : Act} {w : World} {K : Act → World → Prop} {Q : Exit → Act → World → Prop} {G : Prop} (hgd : o.guard = none) (s x : Operand) (T : TypeId)
    (ho : o.op = .call { callee := .builtin .append, args := #[s, x], argTypes := #[T, T] }) (hu : P.underlying T = some (.slice E)) (hsz : (P.info? E).map (·.size) = some e.s)
    (g n c base : Nat) (l cs : List α) (N : Nat) (L : List α) (h : Own e E w base (some ⟨g, 0, none⟩) n c l) (ad : Addr) (m cc : Nat) (hs : a.eval s = .slice (some ⟨g, 0, none⟩) n c) (hx : a.eval x = .slice (some ad) m cc) (hm : cs.length = m)
    (hsrc : ∀ j u, (cs.flatMap e.f)[j]? = some u → w.cell? (ad.add j) = some u) (hN : n + m = N) (hL : l ++ cs = L) (hroom : N ≤ c)
    (hK : ∀ w', Own e E w' base (some ⟨g, 0, none⟩) N c L → w.grownBy w' (some g) → K (a.put o.dst (.slice (some ⟨g, 0, none⟩) N c)) w') :
    if Region.wanted o (yielded ops a.tmps) = true then Oper.wp P o a w K Q else G := by
  subst hN hL
  exact step_append_room_enc hgd s x T ho hu hsz g n c base l cs h ad m cc hs hx hm hsrc hroom hK
/-- The cells of a slice's elements, as 'copy' and 'append' read them. -/
theorem Rd.flat [Inhabited α] {w : World} {b o : Nat} {l : List α} (h : Rd e w (some ⟨b, o, none⟩) l) : ∀ j u, (l.flatMap e.f)[j]? = some u → w.cell? ((⟨b, o, none⟩ : Addr).add j) = some u := by
  intro j u hu
  have hj : j < l.length * e.s := by rw [← flat_length]; exact (List.getElem?_eq_some_iff.1 hu).1
  have hl0 : 0 < l.length := by
    rcases Nat.eq_zero_or_pos l.length with h0 | h0
    · rw [h0] at hj; omega
    · exact h0
  obtain ⟨b', o', e1, hb, hc⟩ := h hl0
  injection e1 with e1
  injection e1 with e1 e2
  subst e1 e2
  have hq : j / e.s < l.length := by rw [Nat.div_lt_iff_lt_mul e.pos]; exact hj
  have hrr : j % e.s < e.s := Nat.mod_lt _ e.pos
  have hi2 : j = j / e.s * e.s + j % e.s := by rw [Nat.mul_comm]; exact (Nat.div_add_mod j e.s).symm
  have hg := flat_get e l (j / e.s) (j % e.s) hq hrr
  rw [← hi2] at hg
  rw [hg] at hu
  have := hc _ hq _ _ hu
  rw [← hi2] at this
  rw [Addr.add_lit]
  exact this
theorem flat_nil_src {w : World} {ad : Addr} : ∀ j u, ((([] : List α)).flatMap e.f)[j]? = some u → w.cell? (ad.add j) = some u := by
  intro j u hu; simp at hu

theorem zeroCells_list [Inhabited α] (z : Array Value) (hz : z.toList = e.f default) (k : Nat) : (Builtin.zeroCells z k).toList = (List.replicate k (default : α)).flatMap e.f := by
  have hzs : z.size = e.s := by rw [← Array.length_toList, hz, e.hs]
  have := made_toList (e := e) z hz k
  rw [← this]
  simp only [Builtin.zeroCells, madeCells, hzs]
/-- append(s, make(.., k)...) where there is no room: a new row. -/
theorem run_append_zeros_enc [Inhabited α] {P : Program} (w : World) (T tn ty : TypeId) (kn : IntKind) (hu : P.underlying T = some (.slice E)) (htn : P.underlying tn = some (.int kn)) (i0 : TypeInfo) (z : Value) (hi : P.info? E = some i0) (hz : i0.zero = some z)
    (hs : i0.size = e.s) (hz0 : z.cells.toList = e.f default) (g i c base k : Nat) (l : List α) (h : Own e E w base (some ⟨g, 0, none⟩) i c l) (h0 : 0 < k) (hg : c < i + k) (hbig : i + k ≤ 1000000000) (hby : i0.bytes ≤ 128) (hfit : Builtin.nextslicecap (i + k) c * i0.bytes ≤ 281474976710656) :
    ∃ w' G, (Builtin.append_ #[T, tn] ty #[.slice (some ⟨g, 0, none⟩) i c, .int .i64 k]).run P w = .ok (.slice (some ⟨w.heap.size, 0, none⟩) (i + k) G) w' ∧
      Own e E w' w.heap.size (some ⟨w.heap.size, 0, none⟩) (i + k) G (l ++ List.replicate k default) ∧ Below w.heap.size w w' := by
  have hln := h.len
  have hrd := h.rd.flat
  have hold : (Builtin.firstCells i0.size i (.slice (some ⟨g, 0, none⟩) i c)).run P w.drew = .ok (l.flatMap e.f).toArray w.drew := by
    have hl := run_loadCells_list (P := P) w.drew ⟨g, 0, none⟩ (l.flatMap e.f) hrd
    rw [flat_length, hln] at hl
    simp only [Builtin.firstCells, hs]
    exact hl
  have hrun := Lib.run_append_grow_zeros (P := P) w T tn ty E i0 z .i64 kn hu htn hi hz (some ⟨g, 0, none⟩) i c (l.flatMap e.f) hold k h0 (by rw [hs]; exact e.pos) hg (by omega) (by have := Nat.mul_le_mul (show k ≤ 1000000000 by omega) hby; omega) hfit
  have hG1 := grownCap_ge w (i + k) c E
  have hG2 := grownCap_le_maxLen w (i + k) c E (by simp only [maxLen]; omega)
  generalize grownCap w (i + k) c E = G at *
  refine ⟨_, G, hrun, ⟨?_, .inr ⟨w.heap.size, G, _, rfl, Nat.le_refl _, heap_alloc_new w.drew _, hG1, hG2, ?_, ?_⟩⟩, ((Below.refl _ _).drew).alloc (Nat.le_refl _) _⟩
  · rw [flat_length]; congr 1; simp [hln]
  · have h1 := congrArg List.length (zeroCells_list (e := e) z.cells hz0 k)
    have h2 := congrArg List.length (zeroCells_list (e := e) z.cells hz0 (G - (i + k)))
    rw [flat_length, List.length_replicate, Array.length_toList] at h1 h2
    simp only [Array.size_append, List.size_toArray, flat_length, h1, h2, hln]
    rw [← Nat.add_mul, ← Nat.add_mul]
    congr 1
    omega
  · have h1 := zeroCells_list (e := e) z.cells hz0 k
    rw [Array.toList_append, Array.toList_append, h1, List.toList_toArray, ← List.flatMap_append]
    have hl2 : ((l ++ List.replicate k (default : α)).flatMap e.f).length = (i + k) * e.s := by rw [flat_length]; congr 1; simp [hln]
    rw [← hl2, List.take_left]
end
end Go.Proofs.Ytnniogdnlcokmaa
