/- The in-line engine's data. -/
import Derived.Test.YtlpfeikoniepiaaRRMirSim
set_option linter.all false
namespace Go.Mir
structure Row where
  off : Int
  pid : Int
  seq : Int
  key : List UInt8
  value : List UInt8
structure Opn where
  pid : Int
  epoch : Int
  bats : List Batch
structure Part where
  start : Int
  fin : Int
  rows : List Row
  opn : List Opn
  prods : List Prod
structure Entry where
  kind : Int
  b : Batch
  yes : Bool
  nxt : Int
  off : Int
  row : Row
  prod : Prod
def encW (r : Row) : List Dat := [.int .i64 r.off, .int .i64 r.pid, .int .i64 r.seq, .str r.key, .str r.value]
def encO (o : Opn) : List Dat := [.int .i64 o.pid, .int .i64 o.epoch, .slice false (o.bats.map encB)]
def encPt (p : Part) : List Dat := [.int .i64 p.start, .int .i64 p.fin, .slice false (p.rows.map encW), .slice false (p.opn.map encO), .slice false (p.prods.map encP)]
def encE (x : Entry) : List Dat := [.int .i8 x.kind, .int .i64 x.b.pid, .int .i64 x.b.epoch, .int .i64 x.b.seq, .bool x.b.txn, .slice false (x.b.recs.map encR), .bool x.yes, .int .i64 x.nxt, .int .i64 x.off,
  .int .i64 x.row.off, .int .i64 x.row.pid, .int .i64 x.row.seq, .str x.row.key, .str x.row.value, .int .i64 x.prod.pid, .int .i64 x.prod.epoch, .int .i64 x.prod.next, .slice false (x.prod.seen.map encS)]
theorem under_encB (n : Nat) (l : List Batch) : Dat.underLL n (l.map encB) = true := underLL_mk fun d hd => by
  obtain ⟨x, _, rfl⟩ := List.mem_map.1 hd
  simp [encB, Dat.underL, Dat.under, under_encR]
theorem under_encW (n : Nat) (l : List Row) : Dat.underLL n (l.map encW) = true := underLL_mk fun d hd => by
  obtain ⟨x, _, rfl⟩ := List.mem_map.1 hd
  rfl
theorem under_encO (n : Nat) (l : List Opn) : Dat.underLL n (l.map encO) = true := underLL_mk fun d hd => by
  obtain ⟨x, _, rfl⟩ := List.mem_map.1 hd
  simp [encO, Dat.underL, Dat.under, under_encB]
theorem under_encE (n : Nat) (l : List Entry) : Dat.underLL n (l.map encE) = true := underLL_mk fun d hd => by
  obtain ⟨x, _, rfl⟩ := List.mem_map.1 hd
  simp [encE, Dat.underL, Dat.under, under_encR, under_encS]
theorem rowsOk_B (l : List Batch) : rowsOk 5 (l.map encB) = true := rowsOk_map 5 encB (fun _ => rfl) l
theorem rowsOk_W (l : List Row) : rowsOk 5 (l.map encW) = true := rowsOk_map 5 encW (fun _ => rfl) l
theorem rowsOk_O (l : List Opn) : rowsOk 3 (l.map encO) = true := rowsOk_map 3 encO (fun _ => rfl) l
theorem rowsOk_E (l : List Entry) : rowsOk 18 (l.map encE) = true := rowsOk_map 18 encE (fun _ => rfl) l
theorem rows_enc {α : Type} {n : Nat} {enc : α → List Dat} (h : ∀ a, (enc a).length = n) (l : List α) : ∀ x ∈ l.map enc, x.length = n := by
  intro x hx
  obtain ⟨a, _, rfl⟩ := List.mem_map.1 hx
  exact h a
/-- append of one -/
theorem app_one {α : Type} {enc : α → List Dat} {n bytes : Nat} (h : ∀ a, (enc a).length = n) (l : List α) (a : α) (hl : (l.length + 1) * bytes ≤ 35184372088832) : appD true n bytes (l.map enc) [enc a] = some (.slice true ((l ++ [a]).map enc)) := by
  rw [appD_ok (by simpa using hl) (rows_enc h l) (by simpa using h a), List.map_append]; rfl
theorem app_all {α : Type} {enc : α → List Dat} {n bytes : Nat} (h : ∀ a, (enc a).length = n) (l m : List α) (hl : (l.length + m.length) * bytes ≤ 35184372088832) : appD true n bytes (l.map enc) (m.map enc) = some (.slice true ((l ++ m).map enc)) := by
  rw [appD_ok (by simpa using hl) (rows_enc h l) (rows_enc h m), List.map_append]
theorem filter_take {α : Type} (q : α → Bool) (T : List α) (k : Nat) (hk : k < T.length) : (T.take (k + 1)).filter q = (T.take k).filter q ++ (if q T[k] then [T[k]] else []) := by
  rw [List.take_succ_eq_append_getElem hk, List.filter_append]
  cases h : q T[k] <;> simp [h]
theorem filter_take_len {α : Type} (q : α → Bool) (T : List α) (k : Nat) : ((T.take k).filter q).length ≤ T.length := Nat.le_trans (List.length_filter_le ..) (by rw [List.length_take]; omega)
end Go.Mir
