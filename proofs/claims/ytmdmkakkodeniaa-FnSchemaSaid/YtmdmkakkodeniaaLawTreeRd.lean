/- Trees: what a reader reads of the bytes at hand. -/
import Derived.Test.YtmdmkakkodeniaaLawTree
import Derived.Test.YtmdmkakkodeniaaLawVar
set_option linter.unusedVariables false
set_option linter.unusedSimpArgs false
namespace Go.Law
open Go.Am Go.Fn

/-- a reader at a place, nothing wrong -/
abbrev rdr (b : List Int) (p : Nat) : TTreeReaderB := (b, (p : Int), (), 0, ())

variable (k : Nat) (hk : 2000 ≤ k)

theorem one_ok {b : List Int} {p : Nat} {y : Int} {r : List Int} {acc : List TNode} (hb : b.length < 4611686018427387904) (h : b.drop p = y :: r) (h0 : 0 ≤ y) (h1 : y < 256) :
    impl_treeReader_one k (rdr b p) acc = some (y, (rdr b (p + 1), acc)) := by
  obtain ⟨g1, g2, g3⟩ := drop_get h
  unfold impl_treeReader_one
  have e : IntKind.wrap .i64 ((p : Int) + 1) = ((p + 1 : Nat) : Int) := by rw [w64 (by omega) (by omega)]; omega
  have e2 : IntKind.wrap .i64 (((p + 1 : Nat) : Int) - 1) = (p : Int) := by rw [w64 (by omega) (by omega)]; omega
  have c : decide ((p : Int) ≥ (b.length : Int)) = false := decide_eq_false (by omega)
  simp only [bneF rfl, cst, Option.bind_some, c, Bool.or_self, cond_false, e, e2, rdL_nat, g1, w64 (show -9223372036854775808 ≤ y by omega) (by omega)]

theorem uvar_ok (hk : 2000 ≤ k) {b : List Int} {p : Nat} {x : Int} {r : List Int} {acc : List TNode} (hb : b.length < 4611686018427387904) (h : b.drop p = uv x ++ r) (hx : I64 x) :
    impl_treeReader_uvar k (rdr b p) acc = some (x, (rdr b (p + (uv x).length), acc)) := by
  unfold impl_treeReader_uvar
  rw [show (rdr b p).1 = b from rfl, show (rdr b p).2.1 = (p : Int) from rfl, uvarGet k (by omega) b p x r hb h hx.1 hx.2]
  simp only [Option.bind_some, bneF rfl, cst, Bool.not_true, Bool.or_self, cond_false]

theorem text_ok (hk : 2000 ≤ k) {b : List Int} {p : Nat} {s : ByteArray} {r : List Int} {acc : List TNode} (hb : b.length < 4611686018427387904) (h : b.drop p = uv (s.size : Int) ++ (strInts s ++ r)) (hs : s.size ≤ 300) :
    impl_treeReader_text k (rdr b p) acc = some (s, (rdr b (p + ((uv (s.size : Int)).length + s.size)), acc)) := by
  have hu := (uv_len (s.size : Int)).2
  obtain ⟨d1, d2⟩ := drop_app h
  have hlen := congrArg List.length h
  simp [strInts_length] at hlen
  have hu0 := (uv_len (s.size : Int)).1
  unfold impl_treeReader_text impl_treeReader_text.c4 impl_treeReader_text.c6
  rw [uvar_ok k hk hb h ⟨by omega, by omega⟩]
  have e1 : IntKind.wrap .i64 ((b.length : Int) - ((p + (uv (s.size : Int)).length : Nat) : Int)) = (b.length : Int) - ((p + (uv (s.size : Int)).length : Nat) : Int) := w64 (by omega) (by omega)
  have e2 : IntKind.wrap .i64 (((p + (uv (s.size : Int)).length : Nat) : Int) + (s.size : Int)) = ((p + ((uv (s.size : Int)).length + s.size) : Nat) : Int) := by rw [w64 (by omega) (by omega)]; omega
  have e3 : IntKind.wrap .i64 (((p + ((uv (s.size : Int)).length + s.size) : Nat) : Int) - (s.size : Int)) = ((p + (uv (s.size : Int)).length : Nat) : Int) := by rw [w64 (by omega) (by omega)]; omega
  have c1 : (decide ((0 : Int) ≤ (s.size : Int)) && decide ((s.size : Int) ≤ 300)) = true := by simp; omega
  have c2 : decide ((s.size : Int) > (b.length : Int) - ((p + (uv (s.size : Int)).length : Nat) : Int)) = false := decide_eq_false (by omega)
  have c3 : inSl ((p + (uv (s.size : Int)).length : Nat) : Int) ((p + ((uv (s.size : Int)).length + s.size) : Nat) : Int) b.length = true := inSl_ok (by omega) (by omega) (by omega)
  have hcut : cutL b ((p + (uv (s.size : Int)).length : Nat) : Int) ((p + ((uv (s.size : Int)).length + s.size) : Nat) : Int) = strInts s := by
    unfold cutL
    rw [Int.toNat_natCast, Int.toNat_natCast, List.drop_take, d1, show p + ((uv (s.size : Int)).length + s.size) - (p + (uv (s.size : Int)).length) = (strInts s).length by rw [strInts_length]; omega]
    simp
  simp only [Option.bind_some, beqT rfl, bneF rfl, within_eq, c1, Bool.not_true, cond_true, cond_false, e1, c2, e2, e3, c3, hcut, intsStr_strInts]

theorem begin_ok {o : TTreeReaderB} {n : TNode} {deep : Nat} {acc : List TNode} (ho : o.2.2.2.1 = 0) (hd : deep ≤ 12) (ha : acc.length < 1500) :
    impl_treeReader_begin k n (deep : Int) o acc = some ((acc.length : Int), (o, acc ++ [n])) := by
  unfold impl_treeReader_begin impl_treeReader_begin.c3 impl_treeReader_begin.d5
  have c1 : decide ((deep : Int) > 12) = false := decide_eq_false (by omega)
  have c2 : ((acc.length : Int) == 1500) = false := beqF (by omega)
  have c3 : lim (acc.length + [n].length) = true := lim_ok (by simp; omega)
  have e : IntKind.wrap .i64 (((acc ++ [n]).length : Int) - 1) = (acc.length : Int) := by
    rw [List.length_append, List.length_singleton, w64 (by omega) (by omega)]; omega
  simp only [c1, c2, cond_false, Option.bind_some, ho, bneF rfl, c3, cond_true, e]
end Go.Law
