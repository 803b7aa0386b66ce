/- slices.Repeat of one number. -/
import Derived.Test.YtpgpkgnljoedaaaShr
import Derived.Test.YtpgpkgnljoedaaaCn
import Derived.Test.YtpgpkgnljoedaaaGr
import Derived.Laws.CopyRow
namespace Go.Proofs.Ytpgpkgnljoedaaa
open Go.RowKit
theorem info3s : (Try.prog.info? 3).map (·.size) = some 1 := by kernel_rfl
/-- copy(s, x), as a step of a walk -/
theorem wpList_copy {w : World} {ops : Array Oper} {rest : List Oper} {o : Oper} {a : Act} {Q : Exit → Act → World → Prop} (hgd : o.guard = none) (s x : Operand) (t : TypeId)
    (ho : o.op = .call { callee := .builtin .copy, args := #[s, x], argTypes := #[t, t] }) (ht : Try.prog.underlying t = some (.slice 3))
    (g off dLen dCap : Nat) (ad : Addr) (sLen sCap : Nat) (cur : Array Value) (ct : TypeId) (cs : List Value)
    (hs : a.eval s = .slice (some ⟨g, off, none⟩) dLen dCap) (hx : a.eval x = .slice (some ad) sLen sCap)
    (hg : w.heap[g]? = some (.cells cur ct (0, 0))) (hn : cs.length = Nat.min sLen dLen) (hsrc : ∀ j v, cs[j]? = some v → w.cell? (ad.add j) = some v) (hfit : off + cs.length ≤ cur.size) (h1 : ∀ v ∈ cs, v.oneCell' = true)
    (h : wpList Try.prog ops Q rest (a.put o.dst (.int .i64 cs.length)) (w.setRow g (cur.toList.take off ++ cs ++ cur.toList.drop (off + cs.length)).toArray)) : wpList Try.prog ops Q (o :: rest) a w := by
  refine wpList_plain hgd fun K' hK' => ?_
  have hrun := run_copy_row (P := Try.prog) w t t o.type 3 g off dLen dCap ad sLen sCap cur ct cs ht info3s hg hn hsrc hfit h1
  unfold Oper.wp
  simp [execOp, ho, resolve, invoke, builtin, hs, hx, hrun, Result.andThen]
  exact hK' _ _ (by simp only [← List.append_assoc]; exact h)
theorem step_copy {w : World} {ops : Array Oper} {o : Oper} {a : Act} {K : Act → World → Prop} {Q : Exit → Act → World → Prop} {E : Prop} (hgd : o.guard = none) (s x : Operand) (t : TypeId)
    (ho : o.op = .call { callee := .builtin .copy, args := #[s, x], argTypes := #[t, t] }) (ht : Try.prog.underlying t = some (.slice 3))
    (g off dLen dCap : Nat) (ad : Addr) (sLen sCap : Nat) (cur : Array Value) (ct : TypeId) (cs : List Value)
    (hs : a.eval s = .slice (some ⟨g, off, none⟩) dLen dCap) (hx : a.eval x = .slice (some ad) sLen sCap)
    (hg : w.heap[g]? = some (.cells cur ct (0, 0))) (hn : cs.length = Nat.min sLen dLen) (hsrc : ∀ j v, cs[j]? = some v → w.cell? (ad.add j) = some v) (hfit : off + cs.length ≤ cur.size) (h1 : ∀ v ∈ cs, v.oneCell' = true)
    (h : ∀ w', w' = w.setRow g (cur.toList.take off ++ cs ++ cur.toList.drop (off + cs.length)).toArray → K (a.put o.dst (.int .i64 cs.length)) w') :
    if Region.wanted o (yielded ops a.tmps) = true then Oper.wp Try.prog o a w K Q else E := by
  have hw : Region.wanted o (yielded ops a.tmps) = true := by simp [Region.wanted, hgd]
  rw [if_pos hw]
  have hrun := run_copy_row (P := Try.prog) w t t o.type 3 g off dLen dCap ad sLen sCap cur ct cs ht info3s hg hn hsrc hfit h1
  unfold Oper.wp
  simp [execOp, ho, resolve, invoke, builtin, hs, hx, hrun, Result.andThen]
  exact h _ (by simp only [← List.append_assoc])
/-- n cells, the first m of them x -/
def part1 (x : Int) (n m : Nat) : List Value := List.replicate m (.int .i64 x) ++ List.replicate (n - m) (.int .i64 0)
theorem part1_length (x : Int) (n m : Nat) (h : m ≤ n) : (part1 x n m).length = n := by simp [part1]; omega
theorem part1_get (x : Int) (n m j : Nat) (h : j < m) : (part1 x n m)[j]? = some (.int .i64 x) := by
  unfold part1
  rw [List.getElem?_append_left (by simpa using h)]
  simp [h]
theorem part1_next (x : Int) (n m k : Nat) (h : m + k ≤ n) : (part1 x n m).take m ++ List.replicate k (.int .i64 x) ++ (part1 x n m).drop (m + k) = part1 x n (m + k) := by
  unfold part1
  rw [List.take_left' (by simp), List.drop_append, List.drop_of_length_le (by simp)]
  simp [List.drop_replicate]
  omega
def Row1 (w : World) (G : Nat) (x : Int) (n m : Nat) : Prop := w.heap[G]? = some (.cells (part1 x n m).toArray 3 (0, 0))
theorem setRow_block (w : World) (g : Nat) (cs : Array Value) (cur : Array Value) (t : TypeId) (h : w.heap[g]? = some (.cells cur t (0, 0))) : (w.setRow g cs).heap[g]? = some (.cells cs t (0, 0)) := by
  simp [World.setRow, Array.getElem?_modify, h]
theorem setRow_below {B : Nat} {w0 w : World} (h : Below B w0 w) (g : Nat) (cs : Array Value) (hg : B ≤ g) : Below B w0 (w.setRow g cs) := by
  refine ⟨h.os, h.tape, h.output, by simpa [World.setRow] using h.size, fun b hb => ?_⟩
  rw [← h.block b hb]
  simp [World.setRow, Array.getElem?_modify, show ¬ g = b by omega]
theorem Row1.next {w : World} {G : Nat} {x : Int} {n m k : Nat} (h : Row1 w G x n m) (hk : m + k ≤ n) :
    Row1 (w.setRow G ((part1 x n m).toArray.toList.take m ++ List.replicate k (Value.int .i64 x) ++ (part1 x n m).toArray.toList.drop (m + (List.replicate k (Value.int .i64 x)).length)).toArray) G x n (m + k) := by
  unfold Row1
  rw [setRow_block _ _ _ _ _ h]
  rw [List.length_replicate, List.toList_toArray, part1_next x n m k hk]
theorem Row1.own {w : World} {G : Nat} {x : Int} {n : Nat} (h : Row1 w G x n n) (base : Nat) (hb : base ≤ G) (hn : n ≤ 1000000) : Own w base (.slice (some ⟨G, 0, none⟩) n n) (List.replicate n x) := by
  have he : part1 x n n = List.replicate n (.int .i64 x) := by simp [part1]
  unfold Row1 at h
  rw [he] at h
  have hl : (List.replicate n x).length = n := List.length_replicate
  refine ⟨by simp, .inr ⟨G, n, _, by rw [hl], hb, h, by rw [hl]; exact Nat.le_refl _, by unfold maxLen; omega, by simp, ?_⟩⟩
  rw [hl]
  simp
theorem make3 (n : Nat) (h : n ≤ 10000) (w : World) : (Instr.makeSlice 33 (.int .i64 n) (.int .i64 n)).run Try.prog w = .ok (.slice (some ⟨w.heap.size, 0, none⟩) n n) (w.alloc (.cells (madeCells #[.int .i64 0] n) 3)) :=
  run_make_row' 33 3 (.int .i64 0) 8 Try.underlying33 info3 rfl .i64 .i64 n (by omega) (by omega) w
theorem made_row (x : Int) (w : World) (n : Nat) : Row1 (w.alloc (.cells (madeCells #[.int .i64 0] n) 3)) w.heap.size x n 0 := by
  unfold Row1
  rw [heap_alloc_new]
  congr 2
  apply Array.ext
  · simp [size_madeCells, part1]
  · intro i h1 h2
    simp [part1, madeCells, Nat.mod_one]
end Go.Proofs.Ytpgpkgnljoedaaa
