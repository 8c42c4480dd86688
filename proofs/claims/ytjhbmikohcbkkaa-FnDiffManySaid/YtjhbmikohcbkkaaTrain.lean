/-
  The plain mathematics of trains: who is on a wagon, and how much it weighs. No program is named here.
-/
import Derived.Test.YtjhbmikohcbkkaaWagon
import Derived.Test.YtjhbmikohcbkkaaBox
namespace Go.Proofs.Ytjhbmikohcbkkaa
set_option linter.unusedVariables false
set_option maxRecDepth 100000

/-- f 0 + .. + f (n-1). -/
def upTo (f : Nat → Int) : Nat → Int
  | 0 => 0
  | n + 1 => upTo f n + f n
theorem upTo_congr {f g : Nat → Int} {n : Nat} (h : ∀ i, i < n → f i = g i) : upTo f n = upTo g n := by
  induction n with
  | zero => rfl
  | succ n ih => simp only [upTo]; rw [ih fun i hi => h i (by omega), h n (by omega)]
theorem upTo_bound {f : Nat → Int} {n : Nat} {b : Int} (h : ∀ i, i < n → 0 ≤ f i ∧ f i ≤ b) : 0 ≤ upTo f n ∧ upTo f n ≤ b * n := by
  induction n with
  | zero => simp [upTo]
  | succ n ih =>
    have h1 := ih fun i hi => h i (by omega)
    have h2 := h n (by omega)
    simp only [upTo, Int.natCast_add, Int.mul_add]
    omega
theorem upTo_le {f g : Nat → Int} {n : Nat} (h : ∀ i, i < n → f i ≤ g i) : upTo f n ≤ upTo g n := by
  induction n with
  | zero => simp [upTo]
  | succ n ih =>
    have h1 := ih fun i hi => h i (by omega)
    have h2 := h n (by omega)
    simp only [upTo]; omega
theorem upTo_add (f g : Nat → Int) (n : Nat) : upTo (fun i => f i + g i) n = upTo f n + upTo g n := by
  induction n with
  | zero => rfl
  | succ n ih => simp only [upTo, ih]; omega
theorem upTo_zero {f : Nat → Int} {n : Nat} (h : ∀ i, i < n → f i = 0) : upTo f n = 0 := by
  induction n with
  | zero => rfl
  | succ n ih => simp only [upTo]; rw [ih fun i hi => h i (by omega), h n (by omega)]; rfl

def onMany (ws : List Int) (k : Int) (n : Nat) : Int := upTo (fun i => if nth ws i = k then 1 else 0) n
def onWt (l : List Bx) (ws : List Int) (k : Int) (n : Nat) : Int := upTo (fun i => if nth ws i = k then (nth l i).wt else 0) n
theorem onMany_hit {ws : List Int} {k : Int} {n : Nat} (h : nth ws n = k) : onMany ws k (n + 1) = onMany ws k n + 1 := by simp [onMany, upTo, h]
theorem onMany_miss {ws : List Int} {k : Int} {n : Nat} (h : ¬ nth ws n = k) : onMany ws k (n + 1) = onMany ws k n := by simp [onMany, upTo, h]
theorem onWt_hit {l : List Bx} {ws : List Int} {k : Int} {n : Nat} (h : nth ws n = k) : onWt l ws k (n + 1) = onWt l ws k n + (nth l n).wt := by simp [onWt, upTo, h]
theorem onWt_miss {l : List Bx} {ws : List Int} {k : Int} {n : Nat} (h : ¬ nth ws n = k) : onWt l ws k (n + 1) = onWt l ws k n := by simp [onWt, upTo, h]
theorem onMany_bd (ws : List Int) (k : Int) (n : Nat) : 0 ≤ onMany ws k n ∧ onMany ws k n ≤ n := by
  have := upTo_bound (f := fun i => if nth ws i = k then 1 else 0) (n := n) (b := 1) (fun i _ => by split <;> omega)
  unfold onMany; omega
theorem boxesOk_wt {l : List Bx} (h : boxesOk l = true) (i : Nat) (hi : i < l.length) : 1 ≤ (nth l i).wt ∧ (nth l i).wt ≤ 30 := by
  have := (boxesOk_t h).1 i hi
  simp only [bxOk, boxOk, Bool.and_eq_true] at this
  exact win_t this.1.1.1.2
theorem onWt_bd {l : List Bx} (h : boxesOk l = true) (ws : List Int) (k : Int) (n : Nat) (hn : n ≤ l.length) : 0 ≤ onWt l ws k n ∧ onWt l ws k n ≤ 300 := by
  have := upTo_bound (f := fun i => if nth ws i = k then (nth l i).wt else 0) (n := n) (b := 30) (fun i hi => by
    have := boxesOk_wt h i (by omega)
    split <;> omega)
  have h2 := (boxesOk_t h).2
  unfold onWt; omega

def onOk (l : List Bx) (ws : List Int) : Bool := boxesOk l && decide (ws.length = l.length)
def onP (l : List Bx) (ws : List Int) (k : Int) : Int × Int := if onOk l ws then (onMany ws k l.length, onWt l ws k l.length) else (0, 0)
theorem onP_f {l : List Bx} {ws : List Int} (k : Int) (h : onOk l ws = false) : onP l ws k = (0, 0) := by simp [onP, h]
theorem onP_t {l : List Bx} {ws : List Int} (k : Int) (h : onOk l ws = true) : onP l ws k = (onMany ws k l.length, onWt l ws k l.length) := by simp [onP, h]
theorem onOk_f1 {l : List Bx} {ws : List Int} (h : boxesOk l = false) : onOk l ws = false := by simp [onOk, h]
theorem onOk_f2 {l : List Bx} {ws : List Int} (h : ¬ ws.length = l.length) : onOk l ws = false := by simp [onOk, h]
theorem onOk_mk {l : List Bx} {ws : List Int} (h : boxesOk l = true) (h2 : ws.length = l.length) : onOk l ws = true := by simp [onOk, h, h2]
theorem onOk_t {l : List Bx} {ws : List Int} (h : onOk l ws = true) : boxesOk l = true ∧ ws.length = l.length := by simpa [onOk] using h

def whOk (wl : List (Int × Int)) (ws : List Int) (i : Nat) : Bool := win (nth ws i) (-1) ((wl.length : Int) - 1)
def fitOk (wl : List (Int × Int)) (l : List Bx) (ws : List Int) (k : Nat) : Bool := decide (onMany ws k l.length ≤ (nth wl k).1) && decide (onWt l ws k l.length ≤ (nth wl k).2)
def trainOk (wl : List (Int × Int)) (l : List Bx) (ws : List Int) : Bool :=
  wagonsOk wl && onOk l ws && (List.range ws.length).all (whOk wl ws) && (List.range wl.length).all (fitOk wl l ws)
section
variable {wl : List (Int × Int)} {l : List Bx} {ws : List Int}
theorem trainOk_f1 (h : wagonsOk wl = false) : trainOk wl l ws = false := by simp [trainOk, h]
theorem trainOk_f2 (h : onOk l ws = false) : trainOk wl l ws = false := by simp [trainOk, h]
theorem trainOk_f3 {i : Nat} (hi : i < ws.length) (h : whOk wl ws i = false) : trainOk wl l ws = false := by
  have : (List.range ws.length).all (whOk wl ws) = false := by
    rw [List.all_eq_false]; exact ⟨i, List.mem_range.2 hi, by simp [h]⟩
  simp [trainOk, this]
theorem trainOk_f4 {k : Nat} (hk : k < wl.length) (h : fitOk wl l ws k = false) : trainOk wl l ws = false := by
  have : (List.range wl.length).all (fitOk wl l ws) = false := by
    rw [List.all_eq_false]; exact ⟨k, List.mem_range.2 hk, by simp [h]⟩
  simp [trainOk, this]
theorem fitOk_f1 {k : Nat} (h : (nth wl k).1 < onMany ws k l.length) : fitOk wl l ws k = false := by
  simp only [fitOk, Bool.and_eq_false_iff, decide_eq_false_iff_not]; left; omega
theorem fitOk_f2 {k : Nat} (h : (nth wl k).2 < onWt l ws k l.length) : fitOk wl l ws k = false := by
  simp only [fitOk, Bool.and_eq_false_iff, decide_eq_false_iff_not]; right; omega
theorem fitOk_mk {k : Nat} (h : ¬ (nth wl k).1 < onMany ws k l.length) (h2 : ¬ (nth wl k).2 < onWt l ws k l.length) : fitOk wl l ws k = true := by
  simp only [fitOk, Bool.and_eq_true, decide_eq_true_eq]; omega
theorem fitOk_t {k : Nat} (h : fitOk wl l ws k = true) : onMany ws k l.length ≤ (nth wl k).1 ∧ onWt l ws k l.length ≤ (nth wl k).2 := by
  simpa [fitOk] using h
theorem trainOk_mk (h1 : wagonsOk wl = true) (h2 : onOk l ws = true) (h3 : ∀ i, i < ws.length → whOk wl ws i = true) (h4 : ∀ k, k < wl.length → fitOk wl l ws k = true) : trainOk wl l ws = true := by
  have e3 : (List.range ws.length).all (whOk wl ws) = true := by
    rw [List.all_eq_true]; intro k hk; exact h3 k (List.mem_range.1 hk)
  have e4 : (List.range wl.length).all (fitOk wl l ws) = true := by
    rw [List.all_eq_true]; intro k hk; exact h4 k (List.mem_range.1 hk)
  simp [trainOk, h1, h2, e3, e4]
theorem trainOk_t (h : trainOk wl l ws = true) : wagonsOk wl = true ∧ onOk l ws = true ∧ (∀ i, i < ws.length → whOk wl ws i = true) ∧ ∀ k, k < wl.length → fitOk wl l ws k = true := by
  simp only [trainOk, Bool.and_eq_true, List.all_eq_true, List.mem_range] at h
  exact ⟨h.1.1.1, h.1.1.2, h.1.2, h.2⟩
end
end Go.Proofs.Ytjhbmikohcbkkaa
