/-
  'DequePlays': every run of a deque, by Play and by a machine of New, is the document's, move by move: for every input the law returns true, and each argument reads afterwards as it read before.
  Conditions: none beyond the given statement's own.
-/
import Derived.Test.YthifeaigdobonaaRows
import Derived.SizedLaws
import Derived.Test.YthifeaigdobonaaOpn
import Derived.Test.YthifeaigdobonaaDpw
namespace Go.Proofs.Ythifeaigdobonaa
open Go.ChangeShapes Go.WideShapes Go.ChangeAt Go.RowKit Go.Joins Go.Deep

theorem bytesMv : Try.prog.bytesOf 27 = 32 := by kernel_rfl

/-- A script as an argument: nil is empty; its datum is as long. -/
theorem script_facts {H : Type} {enc : TypeId × Value → H} {w : World} {base : Nat} {spare : Nat → Bool} {held : Bool} {a : Option Addr} {n cap : Nat} {d : DataW H} {p : List MemPlace}
    (h : DataW.Trod enc Try.prog w base spare held 24 (.slice a n cap) d p) : (a = none → n = 0 ∧ cap = 0) ∧ (a = none ∨ ∃ E Sp, d = .slice E Sp ∧ E.length = n) := by
  obtain ⟨fuel, hf⟩ := h
  rcases open_slice_fields Try.underlying24 Try.underlying27 (by kernel_rfl) (by kernel_rfl) hf with ⟨hcs, _⟩ | ⟨ad, len, c, m, D, Pl, hcs, _, _, _, _, hx, _⟩
  · simp [Value.cells] at hcs
    obtain ⟨rfl, rfl, rfl⟩ := hcs
    exact ⟨fun _ => ⟨rfl, rfl⟩, .inl rfl⟩
  · simp [Value.cells] at hcs
    obtain ⟨rfl, rfl, rfl⟩ := hcs
    injection hx with hx _
    exact ⟨fun e => by (cases e), .inr ⟨_, _, hx, by simp⟩⟩

namespace dequePlays
set_option maxRecDepth 100000 in
theorem lifted (os : Os) (started : os.Started) (H : Type) (enc : TypeId × Value → H) :
    ReturnsInHanded {} Try.checked os 3 .any (Rows.dequePlaysSpec.pre6 enc Try.prog Try.f3 Rows.dequePlaysRow.domain false) (Rows.dequePlaysSpec.post enc Try.prog Try.f3 false true false false) := by
  refine returnsInHanded_of_change_sized (C := Try.checked) own started (by kernel_rfl) Try.func3
    (ChangeSpec.witness6 (enc := enc) (C := Try.checked) false ⟨#[], #[.agg #[.int .i64 0, .int .i64 0], .slice none 0 0], []⟩ 8 (by kernel_rfl) (by kernel_rfl) (by kernel_rfl) (by kernel_rfl)) ?_
  intro W base args ds gs before hval0 hW hcnd hsz0 _
  have hsz : (DataW.weightsEach Try.prog (Try.f3.params.toList ++ Rows.dequePlaysSpec.plain.varTypes Try.prog) (ds ++ gs)).all (· ≤ reachBytes) = true := hsz0
  have hval : ∀ (j : Nat) t v, Try.f3.params[j]? = some t → args[j]? = some v → Value.okWide Try.prog W .any base t v := hval0
  have hW' := hW
  obtain ⟨p, q, hA0, hV, rfl, hfz, hnd⟩ := hW
  have hA : DataW.TrodAll enc Try.prog W 0 (fun _ => true) true Try.f3.params.toList args.toList ds p := hA0
  rw [Try.params3] at hA hval hsz
  obtain ⟨v0, vs0, d0, ds0, p0, q0, hargs, rfl, rfl, h0, r0⟩ := trodAll_cons hA
  obtain ⟨v1, vs1, d1, ds1, p1, q1, rfl, rfl, rfl, h1, r1⟩ := trodAll_cons r0
  obtain ⟨rfl, rfl, rfl⟩ := trodAll_nil r1
  obtain rfl : args = #[v0, v1] := by cases args; simp_all
  obtain ⟨rfl, rfl⟩ := trodVars_none hV
  have lt : ∀ {t v d p}, DataW.Trod enc Try.prog W 0 (fun _ => true) true t v d p → ∀ x ∈ p, x.block < W.heap.size := fun hk => by obtain ⟨m, hm⟩ := hk; exact DataW.trod_lt m _ _ _ hm
  have k0 := h0
  have k1 := h1
  obtain ⟨th0, room0, rfl, _, _⟩ := open_deque (hval 0 _ v0 rfl rfl) h0
  obtain ⟨a1, n1, cap1, mvs1, rfl, hm1⟩ := open_script (hval 1 _ v1 rfl rfl) h1
  obtain ⟨hnil1, hd1⟩ := script_facts h1
  have hreach1 : n1 * 32 ≤ 140737488351232 := by
    rcases hd1 with rfl | ⟨E, Sp, rfl, hE⟩
    · rw [(hnil1 rfl).1]; decide
    · have := sized_slice hsz (j := 1) (t := 24) (e := 27) rfl rfl Try.underlying24
      rw [bytesMv] at this
      simp only [reachBytes] at this
      rw [← hE]
      have h2 : E.length * 32 ≤ (E.length + Sp.length) * 32 := Nat.mul_le_mul_right _ (Nat.le_add_right _ _)
      omega
  clear hA0 hval0 hsz0 hsz hd1
  refine (plays_walk W th0 room0 a1 n1 cap1 mvs1 hm1 hnil1 hreach1).mono fun e W' ⟨he, bel⟩ => ?_
  subst he
  exact ⟨_, rfl, _, _, _, [], _, [], hW', trodAll_mk1 (shut_bool Try.underlying4 _), (trodAll_cons_mk (Below.trod laidOut (by kernel_rfl) (of_decide_eq_true (by kernel_rfl)) k0 bel (lt k0)) (trodAll_cons_mk (Below.trod laidOut (by kernel_rfl) (of_decide_eq_true (by kernel_rfl)) k1 bel (lt k1)) trodAll_mk0)), rfl, bel.frame _, fun h => by cases h⟩

theorem over : Rows.dequePlaysRow.holds Try.pinned (OpenSpec.ofChange Rows.dequePlaysSpec) :=
  OpenClaim.holds_of_wide 3 Try.f3 rfl rfl rfl rfl rfl rfl rfl ⟨rfl, rfl, rfl, rfl, rfl⟩ rfl rfl rfl rfl rfl (by kernel_rfl) Try.func3 (by kernel_rfl)
    (of_decide_eq_true (by kernel_rfl)) (by unfold Func.isWrapper; first | (rw [if_pos (by decide +kernel)]; kernel_rfl) | (rw [if_neg (by decide +kernel)]; exact ⟨rfl, rfl⟩))
    (fun os started H enc _ => lifted os started H enc)
end dequePlays

theorem dequePlays_holds : Rows.DequePlaysSaid := dequePlays.over
#print axioms dequePlays_holds
end Go.Proofs.Ythifeaigdobonaa
