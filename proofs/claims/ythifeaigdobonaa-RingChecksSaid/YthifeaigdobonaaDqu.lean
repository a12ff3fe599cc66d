/- The deque's OpDequeTake: its duel and its end. -/
import Derived.Test.YthifeaigdobonaaDqr
import Derived.Laws.EntriesVeiled
import Derived.Deep.DeepCutAuto
namespace Go.Proofs.Ythifeaigdobonaa
open Go.RowKit

section
variable (W w : World) (q : EK) (ws : List Int) (log : List Acc) (room top rank at_ : Int) (last : Bool) (cs ss : Array Value) (S F : Hp) (nx : Value) (b t v : Int) (got : Bool)

set_option maxHeartbeats 1000000 in
theorem take_won (h2 : 2 ≤ ws.length) (hb : log.length < 1048576) (b1 : -1000000000 ≤ t ∧ t ≤ 1000000000) (b2 : -1000000000 ≤ wd ws 0 ∧ wd ws 0 ≤ 1000000000) (heq : wd ws 0 = t)
    (hS : Env q false ws log (tkO 121 q.bh nx b t v [.bool got]) (hubO room top last rank at_) cs ss S) (h : Holds W w (S + F)) :
    Calls Try.prog 169 #[.pointer (some ⟨q.bt, 0, none⟩), .pointer (some ⟨q.k.bd, 0, none⟩)] w
      (EPost W q true (ws.set 0 (t + 1)) (log ++ [⟨q.k.nw, q.k.th, 3, 0, un t, un (t + 1), un (wd ws 0)⟩]) (tkO 121 q.bh (.func (.func 171) #[.pointer (some ⟨q.bt, 0, none⟩)] #[]) b t v [.bool true]) (hubO room (t + 1) last rank at_) cs ss F (.bool false)) := by
  go_enter Try.func169, Try.ntmps169
  go_wp2_with fail
  refine (raise_yes W w q ws log room top rank at_ last cs ss S F nx b t v 121 [.bool got] h2 hb b1 b2 heq hS h).mono ?_
  rintro e w1 ⟨rfl, S1, hS1, h1⟩
  clear hS h heq
  obtain ⟨tc, tf, _⟩ := hS1.tcell h1
  have c5 : w1.cell? ⟨q.bt, 5, none⟩ = some (.bool got) := by rw [tc]; rfl
  have f5 := tf 5
  clear tc tf
  obtain ⟨S2, hS2, h2b⟩ := hS1.tset h1 5 (.bool true)
  have h2 := h2b
  go_upto_region 2 with fail
  clear h1 hS1 c5 f5 h2b
  generalize w1.setCell ⟨q.bt, 5, none⟩ (.bool true) = w2 at h2 ⊢
  obtain ⟨tc, tf, _⟩ := hS2.tcell h2
  have c1 : w2.cell? ⟨q.bt, 1, none⟩ = some (nx) := by rw [tc]; rfl
  have c5 : w2.cell? ⟨q.bt, 5, none⟩ = some (.bool true) := by rw [tc]; rfl
  have f1 := tf 1
  clear tc tf
  go_wp2_with fail
  go_ret
  obtain ⟨S7, hS7, h7⟩ := hS2.tset h2 1 (.func (.func 171) #[.pointer (some ⟨q.bt, 0, none⟩)] #[])
  exact ⟨rfl, S7, hS7, h7⟩

set_option maxHeartbeats 1000000 in
theorem take_lost (h2 : 2 ≤ ws.length) (hb : log.length < 1048576) (b1 : -1000000000 ≤ t ∧ t ≤ 1000000000) (b2 : -1000000000 ≤ wd ws 0 ∧ wd ws 0 ≤ 1000000000) (heq : wd ws 0 ≠ t)
    (hS : Env q false ws log (tkO 121 q.bh nx b t v [.bool got]) (hubO room top last rank at_) cs ss S) (h : Holds W w (S + F)) :
    Calls Try.prog 169 #[.pointer (some ⟨q.bt, 0, none⟩), .pointer (some ⟨q.k.bd, 0, none⟩)] w
      (EPost W q true ws (log ++ [⟨q.k.nw, q.k.th, 3, 0, un t, un (t + 1), un (wd ws 0)⟩]) (tkO 121 q.bh (.func (.func 171) #[.pointer (some ⟨q.bt, 0, none⟩)] #[]) b t v [.bool false]) (hubO room top last rank at_) (cs.setIfInBounds (q.oc + 6) (.int .i64 q.k.nw)) ss F (.bool false)) := by
  go_enter Try.func169, Try.ntmps169
  go_wp2_with fail
  refine (raise_no W w q ws log room top rank at_ last cs ss S F nx b t v 121 [.bool got] h2 hb b1 b2 heq hS h).mono ?_
  rintro e w1 ⟨rfl, S1, hS1, h1⟩
  clear hS h heq
  obtain ⟨tc, tf, _⟩ := hS1.tcell h1
  have c5 : w1.cell? ⟨q.bt, 5, none⟩ = some (.bool got) := by rw [tc]; rfl
  have f5 := tf 5
  clear tc tf
  obtain ⟨S2, hS2, h2b⟩ := hS1.tset h1 5 (.bool false)
  have h2 := h2b
  go_upto_region 2 with fail
  clear h1 hS1 c5 f5 h2b
  generalize w1.setCell ⟨q.bt, 5, none⟩ (.bool false) = w2 at h2 ⊢
  obtain ⟨tc, tf, _⟩ := hS2.tcell h2
  have c1 : w2.cell? ⟨q.bt, 1, none⟩ = some (nx) := by rw [tc]; rfl
  have c5 : w2.cell? ⟨q.bt, 5, none⟩ = some (.bool false) := by rw [tc]; rfl
  have f1 := tf 1
  clear tc tf
  go_wp2_with fail
  refine (e_now W w2 q _ _ _ _ _ _ S2 F true hS2 h2).mono ?_
  rintro e w' ⟨rfl, rfl⟩
  go_wp2_with fail
  refine (e_point W w2 q _ _ _ _ _ _ S2 F true q.k.nw hS2 h2).mono ?_
  rintro e w3 ⟨rfl, S3, hS3, h3⟩
  clear c1 f1 c5
  obtain ⟨tc, tf, _⟩ := hS3.tcell h3
  have c1 : w3.cell? ⟨q.bt, 1, none⟩ = some (nx) := by rw [tc]; rfl
  have f1 := tf 1
  clear tc tf
  go_wp2_with fail
  go_ret
  obtain ⟨S7, hS7, h7⟩ := hS3.tset h3 1 (.func (.func 171) #[.pointer (some ⟨q.bt, 0, none⟩)] #[])
  exact ⟨rfl, S7, hS7, h7⟩

set_option maxHeartbeats 1000000 in
theorem take_end_yes (h2 : 2 ≤ ws.length) (hb : log.length < 1048576) (b1 : -1000000000 ≤ t ∧ t ≤ 1000000000)
    (hS : Env q false ws log (tkO 121 q.bh nx b t v [.bool true]) (hubO room top last rank at_) cs ss S) (h : Holds W w (S + F)) :
    Calls Try.prog 171 #[.pointer (some ⟨q.bt, 0, none⟩), .pointer (some ⟨q.k.bd, 0, none⟩)] w
      (EPost W q true (ws.set 1 (t + 1)) (log ++ [⟨q.k.nw, q.k.th, 2, 1, 0, un (t + 1), 0⟩]) (tkO 121 q.bh nx b t v [.bool true]) (hubO room top false rank at_) cs ((ss.setIfInBounds q.os (.int .i64 2)).setIfInBounds (q.os + 1) (.int .i64 v)) F (.bool true)) := by
  obtain ⟨tc, tf, _⟩ := hS.tcell h
  have c3 : w.cell? ⟨q.bt, 3, none⟩ = some (.int .i64 t) := by rw [tc]; rfl
  clear tc tf
  have hw : IntKind.i64.wrap (t + 1) = t + 1 := IntWalk.i64_in _ (by omega)
  go_enter Try.func171, Try.ntmps171
  go_wp2_with fail
  refine (number_at (t + 1) _).mono ?_
  rintro e w' ⟨rfl, rfl⟩
  go_wp2_with fail
  refine (e_store W w q ws log _ _ cs ss S F 1 (t + 1) (by decide) (by omega) hb hS h).mono ?_
  rintro e w1 ⟨rfl, S1, hS1, h1⟩
  rw [show (1 : Int).toNat = 1 from rfl] at *
  clear hS h c3
  obtain ⟨tc, tf, _⟩ := hS1.tcell h1
  have c0 : w1.cell? ⟨q.bt, 0, none⟩ = some (.pointer (some ⟨q.bh, 0, none⟩)) := by rw [tc]; rfl
  clear tc tf
  obtain ⟨_, d1, d2, d3, d4⟩ := hS1.hcell h1
  obtain ⟨hf, hne⟩ := hS1.hfree h1
  have f2 := hf 2
  clear hf
  obtain ⟨S2, hS2, h2⟩ := hS1.hset h1 2 (.bool false)
  go_upto_region 3 with fail
  clear h1 hS1 c0 d1 d2 d3 d4 f2
  generalize w1.setCell ⟨q.bh, 2, none⟩ (.bool false) = w2 at h2 ⊢
  obtain ⟨tc, tf, _⟩ := hS2.tcell h2
  have c4 : w2.cell? ⟨q.bt, 4, none⟩ = some (.int .i64 v) := by rw [tc]; rfl
  have c5 : w2.cell? ⟨q.bt, 5, none⟩ = some (.bool true) := by rw [tc]; rfl
  clear tc tf
  go_wp2_with fail
  refine (e_answer W w2 q _ _ _ _ _ _ S2 F true 2 v hS2 h2).mono ?_
  rintro e w3 ⟨rfl, S3, hS3, h3⟩
  go_wp2_with fail
  go_ret
  exact ⟨rfl, S3, hS3, h3⟩

set_option maxHeartbeats 1000000 in
theorem take_end_no (h2 : 2 ≤ ws.length) (hb : log.length < 1048576) (b1 : -1000000000 ≤ t ∧ t ≤ 1000000000)
    (hS : Env q false ws log (tkO 121 q.bh nx b t v [.bool false]) (hubO room top last rank at_) cs ss S) (h : Holds W w (S + F)) :
    Calls Try.prog 171 #[.pointer (some ⟨q.bt, 0, none⟩), .pointer (some ⟨q.k.bd, 0, none⟩)] w
      (EPost W q true (ws.set 1 (t + 1)) (log ++ [⟨q.k.nw, q.k.th, 2, 1, 0, un (t + 1), 0⟩]) (tkO 121 q.bh nx b t v [.bool false]) (hubO room top false rank at_) cs ((ss.setIfInBounds q.os (.int .i64 3)).setIfInBounds (q.os + 1) (.int .i64 0)) F (.bool true)) := by
  obtain ⟨tc, tf, _⟩ := hS.tcell h
  have c3 : w.cell? ⟨q.bt, 3, none⟩ = some (.int .i64 t) := by rw [tc]; rfl
  clear tc tf
  have hw : IntKind.i64.wrap (t + 1) = t + 1 := IntWalk.i64_in _ (by omega)
  go_enter Try.func171, Try.ntmps171
  go_wp2_with fail
  refine (number_at (t + 1) _).mono ?_
  rintro e w' ⟨rfl, rfl⟩
  go_wp2_with fail
  refine (e_store W w q ws log _ _ cs ss S F 1 (t + 1) (by decide) (by omega) hb hS h).mono ?_
  rintro e w1 ⟨rfl, S1, hS1, h1⟩
  rw [show (1 : Int).toNat = 1 from rfl] at *
  clear hS h c3
  obtain ⟨tc, tf, _⟩ := hS1.tcell h1
  have c0 : w1.cell? ⟨q.bt, 0, none⟩ = some (.pointer (some ⟨q.bh, 0, none⟩)) := by rw [tc]; rfl
  clear tc tf
  obtain ⟨_, d1, d2, d3, d4⟩ := hS1.hcell h1
  obtain ⟨hf, hne⟩ := hS1.hfree h1
  have f2 := hf 2
  clear hf
  obtain ⟨S2, hS2, h2⟩ := hS1.hset h1 2 (.bool false)
  go_upto_region 3 with fail
  clear h1 hS1 c0 d1 d2 d3 d4 f2
  generalize w1.setCell ⟨q.bh, 2, none⟩ (.bool false) = w2 at h2 ⊢
  obtain ⟨tc, tf, _⟩ := hS2.tcell h2
  have c4 : w2.cell? ⟨q.bt, 4, none⟩ = some (.int .i64 v) := by rw [tc]; rfl
  have c5 : w2.cell? ⟨q.bt, 5, none⟩ = some (.bool false) := by rw [tc]; rfl
  clear tc tf
  go_wp2_with fail
  refine (e_answer W w2 q _ _ _ _ _ _ S2 F true 3 0 hS2 h2).mono ?_
  rintro e w3 ⟨rfl, S3, hS3, h3⟩
  go_wp2_with fail
  go_ret
  exact ⟨rfl, S3, hS3, h3⟩

end
end Go.Proofs.Ythifeaigdobonaa
