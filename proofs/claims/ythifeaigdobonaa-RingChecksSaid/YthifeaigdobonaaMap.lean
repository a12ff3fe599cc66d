/- A map from ints that a literal lays: a look-up in it; a new key. No program is named. -/
import Derived.Test.YthifeaigdobonaaSl
import Derived.MapKept
import Derived.ChangeMaps4
import Derived.RangeFuncBox
namespace Go.Proofs.Ythifeaigdobonaa
open Go.RowKit

def entsOf : List (Int × Value) → Nat → List MapEntry
  | [], _ => []
  | (k, v) :: r, n => ⟨.int .i64 k, v, n⟩ :: entsOf r (n + 1)
def lookOf : List (Int × Value) → Int → Value → Value
  | [], _, z => z
  | (k, v) :: r, op, z => if op = k then v else lookOf r op z
def hasOf : List (Int × Value) → Int → Bool
  | [], _ => false
  | (k, _) :: r, op => decide (op = k) || hasOf r op

theorem findNow_ents (op : Int) (z : Value) : ∀ (l : List (Int × Value)) (n i : Nat),
    (hasOf l op = false ∧ Instr.findNow (.int .i64) (.int .i64 op) (entsOf l n) i = some none ∧ lookOf l op z = z) ∨
    (hasOf l op = true ∧ ∃ j, Instr.findNow (.int .i64) (.int .i64 op) (entsOf l n) i = some (some (j, lookOf l op z)))
  | [], _, _ => .inl ⟨rfl, rfl, rfl⟩
  | (k, v) :: r, n, i => by
    by_cases h : op = k
    · subst h
      exact .inr ⟨by simp [hasOf], i, by simp [Instr.findNow, entsOf, Instr.sameNow, lookOf]⟩
    · have hb : (op == k) = false := by simpa using h
      rcases findNow_ents op z r (n + 1) (i + 1) with ⟨h0, h1, h2⟩ | ⟨h0, j, h1⟩
      · exact .inl ⟨by simp [hasOf, h, h0], by simp [Instr.findNow, entsOf, Instr.sameNow, hb, h1], by simp [lookOf, h, h2]⟩
      · exact .inr ⟨by simp [hasOf, h0], j, by simp [Instr.findNow, entsOf, Instr.sameNow, hb, h1, lookOf, h]⟩

section
variable {P : Program} {w : World}

theorem run_lookup_ints (t kt et : TypeId) (ht : P.underlying t = some (.map kt et)) (hk : P.underlying kt = some (.int .i64)) (z : Value) (hz : ∀ w, (zeroValue et).run P w = .ok z w)
    (b clock : Nat) (l : List (Int × Value)) (n : Nat) (hb : w.heap[b]? = some (.map (entsOf l n).toArray clock)) (op : Int) :
    (Instr.lookup t (.map (some b)) (.int .i64 op) false).run P w = .ok (lookOf l op z) w := by
  have hkey : MapKept.IsKey (.int .i64) (.int .i64 op) := by simp [MapKept.IsKey]
  rcases findNow_ents op z l n 0 with ⟨_, h1, h2⟩ | ⟨_, j, h1⟩
  · simp [Instr.lookup, run_underlying ht, MapKept.run_getObj_map hb, MapKept.run_checkKey hk hkey, MapKept.run_findKey hk h1, Result.andThen, hz, h2]
  · simp [Instr.lookup, run_underlying ht, MapKept.run_getObj_map hb, MapKept.run_checkKey hk hkey, MapKept.run_findKey hk h1, Result.andThen]

theorem entsOf_snoc (k : Int) (v : Value) : ∀ (l : List (Int × Value)) (n : Nat), entsOf (l ++ [(k, v)]) n = entsOf l n ++ [⟨.int .i64 k, v, n + l.length⟩]
  | [], n => by simp [entsOf]
  | (a, b) :: r, n => by simp [entsOf, entsOf_snoc k v r (n + 1)]; omega

theorem run_insert_ints (t kt et : TypeId) (ht : P.underlying t = some (.map kt et)) (hk : P.underlying kt = some (.int .i64)) (b : Nat) (l : List (Int × Value))
    (hb : w.heap[b]? = some (.map (entsOf l 0).toArray l.length)) (op : Int) (v : Value) (hn : hasOf l op = false) :
    (Instr.mapUpdate t (.map (some b)) (.int .i64 op) v).run P w = .ok () (ChangeMaps.setBlock w b (.map (entsOf (l ++ [(op, v)]) 0).toArray (l ++ [(op, v)]).length)) := by
  have hkey : MapKept.IsKey (.int .i64) (.int .i64 op) := by simp [MapKept.IsKey]
  rcases findNow_ents op .nilFunc l 0 0 with ⟨_, h1, _⟩ | ⟨h0, _⟩
  · simp [Instr.mapUpdate, run_underlying ht, MapKept.run_getObj_map hb, MapKept.run_checkKey hk hkey, MapKept.run_findKey hk h1, Result.andThen, MapKept.run_setObj_map _ hb, ChangeMaps.setBlock, entsOf_snoc]
  · rw [hn] at h0; cases h0
end

end Go.Proofs.Ythifeaigdobonaa
