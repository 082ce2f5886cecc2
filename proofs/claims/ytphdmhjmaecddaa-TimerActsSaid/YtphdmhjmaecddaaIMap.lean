/-
A map from numbers to numbers in one block, told as a function; the run laws of the program's operations on it.
-/
import Derived.Test.YtphdmhjmaecddaaProg
import Derived.Maps.Own
import Derived.Maps.OwnOps
import Derived.Maps.OwnSet
import Derived.Maps.Views
import Derived.WideKeyEntry
import Derived.WalkKit
import Derived.KernelRfl
namespace Go.Proofs.Ytphdmhjmaecddaa
open Go.ChangeMaps Go.MapKept
open Go.WideElems (Fit findIdx_born findIdx_arr set_self)
open Go.Maps (Keyed)

theorem keyed3 : Keyed Try.prog 3 := Maps.int_keyed Try.underlying3
theorem zero3 (w : World) : (zeroValue 3).run Try.prog w = .ok (.int .i64 0) w := by kernel_rfl
def kl (k : Int) : Lit := .int .i64 k
def ok64 (k : Int) : Prop := (Lit.int .i64 k).wf = true
theorem ok64_iff (k : Int) : ok64 k ↔ -9223372036854775808 ≤ k ∧ k ≤ 9223372036854775807 := by
  simp [ok64, Lit.wf, IntKind.min, IntKind.max, IntKind.signed, IntKind.bits]
theorem kl_ne {a b : Int} (h : a ≠ b) : kl a ≠ kl b := fun e => h (by unfold kl at e; injection e)
theorem kl_key (k : Int) : WideAt.IsKeyLit (kl k) := by unfold kl; trivial
theorem key_mk {k : Int} (h : ok64 k) : keyOf Try.prog 3 (.int .i64 k) = some (kl k) := Maps.keyOf_int_mk Try.underlying3 h

/-- What stands at one key. -/
def At (D : DataW Nat) (k : Int) : Option Int → Prop
  | none => Maps.has D (kl k) = false
  | some c => Maps.has D (kl k) = true ∧ ok64 c ∧ ∀ z, D.atKey (kl k) z = .lit (.int .i64 c)

/-- Block M of w is a map of n entries that answers as f does. -/
def IMap (w : World) (M n : Nat) (f : Int → Option Int) : Prop :=
  ∃ D : DataW Nat, w.ownsMap Try.prog 3 (plainElem Try.prog 3) M n D ∧ Maps.size D = n ∧ ∀ k, ok64 k → At D k (f k)

def upd (f : Int → Option Int) (k : Int) (v : Option Int) : Int → Option Int := fun x => if x = k then v else f x
theorem upd_same (f : Int → Option Int) (k : Int) (v : Option Int) : upd f k v k = v := by simp [upd]
theorem upd_other (f : Int → Option Int) (k : Int) (v : Option Int) {x : Int} (h : x ≠ k) : upd f k v x = f x := by simp [upd, h]

theorem ownsMap_tight {w : World} {M n : Nat} {D : DataW Nat} (h : w.ownsMap Try.prog 3 (plainElem Try.prog 3) M n D) : w.ownsMap Try.prog 3 (plainElem Try.prog 3) M (Maps.size D) D := by
  obtain ⟨es, clock, hb, F, _, rfl⟩ := h
  refine ⟨es, clock, hb, F, ?_, rfl⟩
  simp [Maps.size, length_sorted]

theorem IMap.made (w : World) : IMap (w.alloc (.map #[] 0)) w.heap.size 0 (fun _ => none) :=
  ⟨.map [], World.ownsMap_made w Try.prog 3 (plainElem Try.prog 3), rfl, fun _ _ => rfl⟩
theorem IMap.lt {w : World} {M n : Nat} {f : Int → Option Int} (h : IMap w M n f) : M < w.heap.size := h.choose_spec.1.lt
theorem IMap.kept {w w' : World} {M n : Nat} {f : Int → Option Int} {row : Option Nat} (h : IMap w M n f) (hg : w.grownBy w' row) (hne : some M ≠ row) : IMap w' M n f := by
  obtain ⟨D, h1, h2, h3⟩ := h
  exact ⟨D, h1.kept hg hne, h2, h3⟩
theorem IMap.block {w w' : World} {M n : Nat} {f : Int → Option Int} (h : IMap w M n f) (hb : w'.heap[M]? = w.heap[M]?) : IMap w' M n f := by
  obtain ⟨D, ⟨es, clock, h0, h1⟩, h2, h3⟩ := h
  exact ⟨D, ⟨es, clock, hb.trans h0, h1⟩, h2, h3⟩
theorem IMap.alloc {w : World} {M n : Nat} {f : Int → Option Int} (h : IMap w M n f) (o : Obj) : IMap (w.alloc o) M n f := h.kept (World.grownBy_alloc w o none) (by simp)
theorem IMap.drew {w : World} {M n : Nat} {f : Int → Option Int} (h : IMap w M n f) : IMap w.drew M n f := h
theorem IMap.congr {w : World} {M n : Nat} {f g : Int → Option Int} (h : IMap w M n f) (e : ∀ k, ok64 k → f k = g k) : IMap w M n g := by
  obtain ⟨D, h1, h2, h3⟩ := h
  exact ⟨D, h1, h2, fun k hk => e k hk ▸ h3 k hk⟩

theorem IMap.look {w : World} {M n : Nat} {f : Int → Option Int} (h : IMap w M n f) {k : Int} (hk : ok64 k) :
    (Instr.lookup 51 (.map (some M)) (.int .i64 k) true).run Try.prog w = .ok (.tuple #[.int .i64 ((f k).getD 0), .bool (f k).isSome]) w := by
  obtain ⟨D, h1, _, h3⟩ := h
  obtain ⟨v, ps, hr, hv⟩ := h1.look_ok keyed3 Try.underlying51 (zero3 w) (plainElem_int Try.underlying3 (by decide) : plainElem (H := Nat) Try.prog 3 (.int .i64 0) = some (.lit (.int .i64 0), [])) (key_mk hk)
  obtain ⟨c, rfl, hc, _⟩ := plainElem_int_inv Try.underlying3 hv
  have h4 := h3 k hk
  simp only [Prod.mk.injEq] at hc
  cases hf : f k with
  | none =>
    rw [hf] at h4
    have h4' : Maps.has D (kl k) = false := h4
    rw [Maps.atKey_of_not_has h4'] at hc
    rw [h4'] at hr
    obtain rfl : 0 = c := by have := hc.1; injection this with this; injection this
    exact hr
  | some d =>
    rw [hf] at h4
    obtain ⟨h5, _, h6⟩ := h4
    rw [h6] at hc
    rw [h5] at hr
    obtain rfl : d = c := by have := hc.1; injection this with this; injection this
    exact hr

theorem At.put {w : World} {M n : Nat} {D : DataW Nat} {f : Int → Option Int} (h1 : w.ownsMap Try.prog 3 (plainElem Try.prog 3) M n D) (h3 : ∀ k, ok64 k → At D k (f k)) {k c : Int} (hc : ok64 c) :
    ∀ x, ok64 x → At (D.put (kl k) (.lit (.int .i64 c))) x (upd f k (some c) x) := by
  intro x hx
  by_cases e : x = k
  · subst e
    rw [upd_same]
    exact ⟨Maps.has_put_same h1.isMap (kl_key x) _, hc, fun z => Maps.atKey_put_same h1.isMap (kl_key x) _ z⟩
  · rw [upd_other _ _ _ e]
    have := h3 x hx
    cases hf : f x with
    | none =>
      rw [hf] at this
      show Maps.has _ _ = false
      rw [Maps.has_put_other (kl_ne e)]
      exact this
    | some d =>
      rw [hf] at this
      obtain ⟨a, b, g⟩ := this
      exact ⟨by rw [Maps.has_put_other (kl_ne e)]; exact a, b, fun z => by rw [Maps.atKey_put_other (kl_ne e)]; exact g z⟩

theorem At.del {D : DataW Nat} {f : Int → Option Int} (h3 : ∀ k, ok64 k → At D k (f k)) {k : Int} :
    ∀ x, ok64 x → At (D.del (kl k)) x (upd f k none x) := by
  intro x hx
  by_cases e : x = k
  · subst e
    rw [upd_same]
    exact Maps.has_del_same
  · rw [upd_other _ _ _ e]
    have := h3 x hx
    cases hf : f x with
    | none =>
      rw [hf] at this
      show Maps.has _ _ = false
      rw [Maps.has_del_other (kl_ne e)]
      exact this
    | some d =>
      rw [hf] at this
      obtain ⟨a, b, g⟩ := this
      exact ⟨by rw [Maps.has_del_other (kl_ne e)]; exact a, b, fun z => by rw [Maps.atKey_del_other (kl_ne e)]; exact g z⟩

theorem At.has {D : DataW Nat} {k : Int} {o : Option Int} (h : At D k o) : Maps.has D (kl k) = o.isSome := by
  cases o with
  | none => exact h
  | some c => exact h.1

theorem IMap.store {w : World} {M n : Nat} {f : Int → Option Int} (h : IMap w M n f) (hn : n < 1000000) {k c : Int} (hk : ok64 k) (hc : ok64 c) :
    ∃ w', (Instr.mapUpdate 51 (.map (some M)) (.int .i64 k) (.int .i64 c)).run Try.prog w = .ok () w' ∧ IMap w' M (if (f k).isSome then n else n + 1) (upd f k (some c)) ∧ w.mapTurned w' M := by
  obtain ⟨D, h1, h2, h3⟩ := h
  obtain ⟨w', hr, ho, ht⟩ := h1.store keyed3 Try.underlying51 (Nat.lt_trans hn (by decide)) (key_mk hk) (plainElem_int Try.underlying3 hc)
  refine ⟨w', hr, ⟨_, ?_, ?_, At.put h1 h3 hc⟩, ht⟩
  · have := ownsMap_tight ho
    rwa [Maps.size_put (h1.tidy keyed3), (h3 k hk).has, h2] at this
  · rw [Maps.size_put (h1.tidy keyed3), (h3 k hk).has, h2]

theorem IMap.drop {w : World} {M n : Nat} {f : Int → Option Int} (h : IMap w M n f) {k : Int} (hk : ok64 k) (hin : (f k).isSome = true) (ty : TypeId) :
    ∃ w', (Builtin.delete_ #[51, 3] ty #[.map (some M), .int .i64 k]).run Try.prog w = .ok (.tuple #[]) w' ∧ IMap w' M (n - 1) (upd f k none) ∧ w.mapTurned w' M := by
  obtain ⟨D, h1, h2, h3⟩ := h
  obtain ⟨w', hr, ho, ht⟩ := h1.drop keyed3 Try.underlying51 (key_mk hk) ty
  have hs := Maps.size_del (k := kl k) (h1.tidy keyed3)
  rw [(h3 k hk).has, hin, h2] at hs
  have hs' : Maps.size (D.del (kl k)) = n - 1 := by
    simp at hs
    omega
  refine ⟨w', hr, ⟨_, ?_, hs', At.del h3⟩, ht⟩
  have := ownsMap_tight ho
  rwa [hs'] at this

theorem setBlock_self {w : World} {b : Nat} {es : Array MapEntry} {clock : Nat} (hb : w.heap[b]? = some (.map es clock)) : setBlock w b (.map es clock) = w := by
  have e : w.heap.setIfInBounds b (.map es clock) = w.heap := by
    apply Array.ext_getElem?
    intro i
    by_cases hi : i = b
    · subst hi
      exact (heap_setBlock_same hb _).trans hb.symm
    · exact heap_setBlock_other hb _ hi
  unfold setBlock
  rw [e]

/-- The entry of a key that is there: it is found without a turn of the world; a store into it is the map's own store. -/
theorem entry_there {P : Program} {w : World} {t k e : TypeId} {R : Value → Option (DataW Nat × List MemPlace)} {b : Nat} {es : Array MapEntry} {clock : Nat} (K : Keyed P k) (ht : P.underlying t = some (.map k e)) (hb : w.heap[b]? = some (.map es clock)) (F : Fit P k R es clock)
    {key : Value} {kl : Lit} (hkey : keyOf P k key = some kl) (hin : ∃ x ∈ es.toList, x.key = key) :
    ∃ (v0 : Value) (st : Nat), (Instr.mapEntry t (.map (some b)) key).run P w = .ok (.tuple #[v0, goInt st]) w ∧
      ∀ val : Value, ∃ es', (Instr.entryStore t (.map (some b)) (goInt st) val).run P w = .ok () (setBlock w b (.map es' clock)) ∧
        (Instr.mapUpdate t (.map (some b)) key val).run P w = .ok () (setBlock w b (.map es' clock)) := by
  obtain ⟨s1, s2, _⟩ := F.stamped
  rcases K.find w hkey es.toList F.keys with ⟨_, h2⟩ | ⟨j, e0, h1, h2, h3⟩
  · obtain ⟨x, hx, hxk⟩ := hin
    exact absurd hxk (h2 x hx)
  · have hj : es[j]? = some e0 := by simpa using h2
    have hsame : es.modify j (fun e => { e with key := key }) = es := by
      apply Array.ext'
      rw [Array.toList_modify, modify_eq_set _ _ _ _ h2]
      have : ({ e0 with key := key } : MapEntry) = e0 := by rw [← h3]
      rw [this]
      exact set_self _ _ _ h2
    refine ⟨e0.val, e0.born, ?_, fun val => ⟨es.modify j (fun e' => { e' with key := key, val := val }), ?_, ?_⟩⟩
    · have hself := setBlock_self hb
      unfold setBlock at hself
      simp [Instr.mapEntry, run_underlying ht, MapKept.run_getObj_map hb, K.check w false hkey, h1, hj, h3, K.stays w hkey, hsame, MapKept.run_setObj_map _ hb, Result.andThen, hself]
    · have hidx : es.findIdx? (fun e => ((e.born : Nat) : Int) == ((e0.born : Nat) : Int)) = some j := by
        rw [findIdx_arr]
        exact findIdx_born s2 h2
      have hmod : es.modify j (fun e => { e with val := val }) = es.modify j (fun e' => { e' with key := key, val := val }) := by
        apply Array.ext'
        rw [Array.toList_modify, Array.toList_modify, modify_eq_set _ _ _ _ h2, modify_eq_set _ _ _ _ h2, ← h3]
      simp [Instr.entryStore, MapKept.run_getObj_map hb, asInt, asIntOf, goInt, hidx, hmod, MapKept.run_setObj_map _ hb, Result.andThen, setBlock]
    · simp [Instr.mapUpdate, run_underlying ht, MapKept.run_getObj_map hb, K.check w false hkey, h1, hj, h3, K.stays w hkey, MapKept.run_setObj_map _ hb, Result.andThen, setBlock]

theorem IMap.entry {w : World} {M n : Nat} {f : Int → Option Int} (h : IMap w M n f) (hn : n < 1000000) {k : Int} (hk : ok64 k) (hin : (f k).isSome = true) :
    ∃ (v0 : Value) (st : Int), (Instr.mapEntry 51 (.map (some M)) (.int .i64 k)).run Try.prog w = .ok (.tuple #[v0, .int .i64 st]) w ∧
      ∀ c : Int, ok64 c → ∃ w', (Instr.entryStore 51 (.map (some M)) (.int .i64 st) (.int .i64 c)).run Try.prog w = .ok () w' ∧ IMap w' M n (upd f k (some c)) ∧ w.mapTurned w' M := by
  have h0 := h
  obtain ⟨D, h1, h2, h3⟩ := h
  obtain ⟨es, clock, hb, F, hs, hD⟩ := h1
  have hhas : Maps.has D (kl k) = true := by rw [(h3 k hk).has]; exact hin
  have hex : ∃ x ∈ es.toList, x.key = .int .i64 k := by
    rcases Maps.fit_look (e := 3) false keyed3 Try.underlying51 (zero3 w) hb F (key_mk hk) with ⟨_, _, hat⟩ | ⟨e0, _, hm, hk0, _⟩
    · rw [← hD] at hat
      rw [Maps.has_false_of_atKey hat] at hhas
      exact absurd hhas (by simp)
    · exact ⟨e0, hm, hk0⟩
  obtain ⟨v0, st, hr, hst⟩ := entry_there keyed3 Try.underlying51 hb F (key_mk hk) hex
  refine ⟨v0, st, hr, fun c hc => ?_⟩
  obtain ⟨es', hs1, hs2⟩ := hst (.int .i64 c)
  obtain ⟨w', hu, hI, hT⟩ := h0.store hn hk hc
  rw [hs2] at hu
  injection hu with _ hu
  subst hu
  rw [hin, if_pos rfl] at hI
  exact ⟨_, hs1, hI, hT⟩

#print axioms IMap.entry
end Go.Proofs.Ytphdmhjmaecddaa
