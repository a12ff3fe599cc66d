/- The deque's tasks, put together: what a step of a push, a take, a steal does to the machine's words, log, call, seat and hub. -/
import Derived.Test.YthifeaigdobonaaDm
import Derived.Test.YthifeaigdobonaaDqp
import Derived.Test.YthifeaigdobonaaDqt
import Derived.Test.YthifeaigdobonaaDqu
import Derived.Test.YthifeaigdobonaaDqs
namespace Go.Proofs.Ythifeaigdobonaa
open Go.RowKit

/-- A task's step goes to the method in its field. -/
theorem callstep (W w : World) (q : EK) (ws ws2 : List Int) (log log2 : List Acc) (ty : TypeId) (b t v : Int) (more : List Value) (hub task2 hub2 : Obj) (cs ss cs2 ss2 : Array Value) (S F : Hp) (fm : FuncId) (over : Bool)
    (hcf : ∀ args w, (callFunc fm args).run Try.prog w = .ok (.enter fm args) w)
    (hS : Env q false ws log (tkO ty q.bh (.func (.func fm) #[.pointer (some ⟨q.bt, 0, none⟩)] #[]) b t v more) hub cs ss S) (h : Holds W w (S + F))
    (hm : Calls Try.prog fm #[.pointer (some ⟨q.bt, 0, none⟩), .pointer (some ⟨q.k.bd, 0, none⟩)] w (EPost W q true ws2 log2 task2 hub2 cs2 ss2 F (.bool over))) :
    Calls Try.prog 144 #[.pointer (some ⟨q.bt, 0, none⟩), .pointer (some ⟨q.k.bd, 0, none⟩)] w (EPost W q true ws2 log2 task2 hub2 cs2 ss2 F (.bool over)) := by
  obtain ⟨tc, _, _⟩ := hS.tcell h
  have c1 : w.cell? ⟨q.bt, 1, none⟩ = some (.func (.func fm) #[.pointer (some ⟨q.bt, 0, none⟩)] #[]) := by rw [tc]; rfl
  have HM := Lib.hid hm
  clear tc hm hS h
  go_enter Try.func144, Try.ntmps144
  go_wp2_with fail
  refine HM.out.mono ?_
  rintro e w' ⟨rfl, S', hS', h'⟩
  go_wp2_with fail
  go_ret
  exact ⟨rfl, S', hS', h'⟩

theorem Env.of_gen {q : EK} {bt bh : Nat} {us : Bool} {ws : List Int} {log : List Acc} {task hub : Obj} {cs ss : Array Value} {S : Hp} (h : GEnv q us (ws.map un) log (pt bt task + pt bh hub) cs ss S) :
    q.oc + 8 < cs.size ∧ Env { q with bt := bt, bh := bh } us ws log task hub cs ss S := by
  obtain ⟨a1, a2, a3, a4, Sd, hd, rfl⟩ := h
  exact ⟨a3, a1, a2, by show q.oc + 6 < cs.size; omega, a4, Sd, hd, by show _ = Sd + (pt bt task + (pt bh hub + (pt q.gc (.cells cs 66 (0, 0)) + pt q.gs (.cells ss 137 (0, 0))))); ac_rfl⟩

theorem GPost.of_env {W : World} {q : EK} {bt bh : Nat} {us : Bool} {ws : List Int} {log : List Acc} {task hub : Obj} {cs ss : Array Value} {F : Hp} {r : Value} {e : Ending} {w' : World} (hc : q.oc + 8 < cs.size)
    (h : EPost W { q with bt := bt, bh := bh } us ws log task hub cs ss F r e w') : GPost W q us (ws.map un) log (pt bt task + pt bh hub) cs ss F r e w' := by
  obtain ⟨he, S', ⟨a1, a2, a3, a4, Sd, hd, rfl⟩, h'⟩ := h
  exact ⟨he, _, ⟨a1, a2, hc, a4, Sd, hd, by show Sd + (pt bt task + (pt bh hub + (pt q.gc (.cells cs 66 (0, 0)) + pt q.gs (.cells ss 137 (0, 0))))) = _; ac_rfl⟩, h'⟩

/-- From the methods' contracts to what the machine asks. -/
theorem does_of (W : World) (T : TypeId) (bt bh : Nat) (th now : Int) (ws ws2 : List Int) (log log2 : List Acc) (task0 task1 task2 hub0 hub2 : Obj) (p : Option Int) (a : Option (Int × Int)) (over ready : Bool) (fR : FuncId)
    (hk : ready = true → task1 = task0)
    (m1 : ∀ w, (method 352 T (.pointer (some ⟨bt, 0, none⟩)) "Ready").run Try.prog w = .ok (fR, .pointer (some ⟨bt, 0, none⟩)) w)
    (m2 : ∀ w, (method 352 T (.pointer (some ⟨bt, 0, none⟩)) "Step").run Try.prog w = .ok (144, .pointer (some ⟨bt, 0, none⟩)) w)
    (m3 : ∀ args w, (callFunc fR args).run Try.prog w = .ok (.enter fR args) w)
    (hR : ready = false → ∀ (q : EK) (w : World) (S F : Hp) (cs ss : Array Value), q.bt = bt → q.bh = bh → q.k.th = th → q.k.nw = now → Env q false ws log task0 hub0 cs ss S → Holds W w (S + F) →
      Calls Try.prog fR #[.pointer (some ⟨q.bt, 0, none⟩), .pointer (some ⟨q.k.bd, 0, none⟩)] w (EPost W q false ws log task1 hub0 cs ss F (.bool false)))
    (hS : ∀ (q : EK) (w : World) (S F : Hp) (cs ss : Array Value), q.bt = bt → q.bh = bh → q.k.th = th → q.k.nw = now → Env q false ws log task1 hub0 cs ss S → Holds W w (S + F) →
      Calls Try.prog 144 #[.pointer (some ⟨q.bt, 0, none⟩), .pointer (some ⟨q.k.bd, 0, none⟩)] w (EPost W q true ws2 log2 task2 hub2 (setPt cs q.oc p) (setAn ss q.os a) F (.bool over))) :
    TaskDoes W T bt th now (ws.map un) log (pt bt task0 + pt bh hub0) (pt bt task1 + pt bh hub0) (ws2.map un) log2 (pt bt task2 + pt bh hub2) p a over ready := by
  refine ⟨fun hr => by rw [hk hr], fR, 144, m1, m2, m3, fun args w => by kernel_rfl, fun hr q w S F cs ss h1 h2 hG h => ?_, fun q w S F cs ss h1 h2 hG h => ?_⟩
  · obtain ⟨hc, hE⟩ := Env.of_gen hG
    exact (hR hr { q with bt := bt, bh := bh } w S F cs ss rfl rfl h1 h2 hE h).mono fun e w' hp => GPost.of_env hc hp
  · obtain ⟨hc, hE⟩ := Env.of_gen hG
    exact (hS { q with bt := bt, bh := bh } w S F cs ss rfl rfl h1 h2 hE h).mono fun e w' hp => GPost.of_env (by cases p <;> simpa [setPt] using hc) hp

end Go.Proofs.Ythifeaigdobonaa
