/- Plain data of the program, as typed values. Printed by plumb.py. -/
import Derived.Test.YtmcfccgmhinpdaaGreatDoorTyBase
namespace Ev.Ty
open Go Ev
open Enc (enc)
open Sm (sm)
set_option linter.unusedVariables false
structure Symbol where
  name : ByteArray
  arity : Int
  deriving DecidableEq
instance : Enc Symbol := ⟨2, by decide, fun x => [.str x.name, .int .i64 x.arity], fun _ => rfl⟩
@[simp] theorem sz_Symbol : Enc.sz Symbol = 2 := rfl
theorem enc_Symbol (x : Symbol) : enc x = [.str x.name, .int .i64 x.arity] := rfl
instance : Sm Symbol := ⟨fun n x => sm n x.name, fun h x => sm_mono h x⟩
theorem set_Symbol {l : List Symbol} {i : Nat} (h : i < l.length) (v_name : ByteArray) (v_arity : Int) : setCells (cells l) (i * 2) [.str v_name, .int .i64 v_arity] = cells (l.set i (Symbol.mk v_name v_arity)) := cells_set l 2 i rfl (Symbol.mk v_name v_arity) h
theorem rep_Symbol (n : Nat) : repT n [.str (ByteArray.mk #[]), .int .i64 0] = cells (List.replicate n (Symbol.mk (ByteArray.mk #[]) 0)) := cells_rep n (Symbol.mk (ByteArray.mk #[]) 0)
structure Signature where
  symbols : List Symbol
  deriving DecidableEq
instance : Enc Signature := ⟨1, by decide, fun x => [slc x.symbols], fun _ => rfl⟩
@[simp] theorem sz_Signature : Enc.sz Signature = 1 := rfl
theorem enc_Signature (x : Signature) : enc x = [slc x.symbols] := rfl
instance : Sm Signature := ⟨fun n x => sm n x.symbols, fun h x => sm_mono h x⟩
theorem set_Signature {l : List Signature} {i : Nat} (h : i < l.length) (v_symbols : List Symbol) : setCells (cells l) (i * 1) [slc v_symbols] = cells (l.set i (Signature.mk v_symbols)) := cells_set l 1 i rfl (Signature.mk v_symbols) h
theorem rep_Signature (n : Nat) : repT n [.sl 2 []] = cells (List.replicate n (Signature.mk [])) := cells_rep n (Signature.mk [])
structure Equation where
  left : List Int
  right : List Int
  deriving DecidableEq
instance : Enc Equation := ⟨2, by decide, fun x => [slc x.left, slc x.right], fun _ => rfl⟩
@[simp] theorem sz_Equation : Enc.sz Equation = 2 := rfl
theorem enc_Equation (x : Equation) : enc x = [slc x.left, slc x.right] := rfl
instance : Sm Equation := ⟨fun n x => sm n x.left ∧ sm n x.right, fun h x => ⟨sm_mono h x.1, sm_mono h x.2⟩⟩
theorem set_Equation {l : List Equation} {i : Nat} (h : i < l.length) (v_left : List Int) (v_right : List Int) : setCells (cells l) (i * 2) [slc v_left, slc v_right] = cells (l.set i (Equation.mk v_left v_right)) := cells_set l 2 i rfl (Equation.mk v_left v_right) h
theorem rep_Equation (n : Nat) : repT n [.sl 1 [], .sl 1 []] = cells (List.replicate n (Equation.mk [] [])) := cells_rep n (Equation.mk [] [])
structure Binding where
  vars : List Int
  terms : List (List Int)
  deriving DecidableEq
instance : Enc Binding := ⟨2, by decide, fun x => [slc x.vars, slc x.terms], fun _ => rfl⟩
@[simp] theorem sz_Binding : Enc.sz Binding = 2 := rfl
theorem enc_Binding (x : Binding) : enc x = [slc x.vars, slc x.terms] := rfl
instance : Sm Binding := ⟨fun n x => sm n x.vars ∧ sm n x.terms, fun h x => ⟨sm_mono h x.1, sm_mono h x.2⟩⟩
theorem set_Binding {l : List Binding} {i : Nat} (h : i < l.length) (v_vars : List Int) (v_terms : List (List Int)) : setCells (cells l) (i * 2) [slc v_vars, slc v_terms] = cells (l.set i (Binding.mk v_vars v_terms)) := cells_set l 2 i rfl (Binding.mk v_vars v_terms) h
theorem rep_Binding (n : Nat) : repT n [.sl 1 [], .sl 1 []] = cells (List.replicate n (Binding.mk [] [])) := cells_rep n (Binding.mk [] [])
structure Algebra where
  size : Int
  tables : List (List Int)
  deriving DecidableEq
instance : Enc Algebra := ⟨2, by decide, fun x => [.int .i64 x.size, slc x.tables], fun _ => rfl⟩
@[simp] theorem sz_Algebra : Enc.sz Algebra = 2 := rfl
theorem enc_Algebra (x : Algebra) : enc x = [.int .i64 x.size, slc x.tables] := rfl
instance : Sm Algebra := ⟨fun n x => sm n x.tables, fun h x => sm_mono h x⟩
theorem set_Algebra {l : List Algebra} {i : Nat} (h : i < l.length) (v_size : Int) (v_tables : List (List Int)) : setCells (cells l) (i * 2) [.int .i64 v_size, slc v_tables] = cells (l.set i (Algebra.mk v_size v_tables)) := cells_set l 2 i rfl (Algebra.mk v_size v_tables) h
theorem rep_Algebra (n : Nat) : repT n [.int .i64 0, .sl 1 []] = cells (List.replicate n (Algebra.mk 0 [])) := cells_rep n (Algebra.mk 0 [])
structure Entry where
  kind : Int
  a : Int
  b : Int
  place : Int
  side : Int
  left : List Int
  right : List Int
  deriving DecidableEq
instance : Enc Entry := ⟨7, by decide, fun x => [.int .i64 x.kind, .int .i64 x.a, .int .i64 x.b, .int .i64 x.place, .int .i64 x.side, slc x.left, slc x.right], fun _ => rfl⟩
@[simp] theorem sz_Entry : Enc.sz Entry = 7 := rfl
theorem enc_Entry (x : Entry) : enc x = [.int .i64 x.kind, .int .i64 x.a, .int .i64 x.b, .int .i64 x.place, .int .i64 x.side, slc x.left, slc x.right] := rfl
instance : Sm Entry := ⟨fun n x => sm n x.left ∧ sm n x.right, fun h x => ⟨sm_mono h x.1, sm_mono h x.2⟩⟩
theorem set_Entry {l : List Entry} {i : Nat} (h : i < l.length) (v_kind : Int) (v_a : Int) (v_b : Int) (v_place : Int) (v_side : Int) (v_left : List Int) (v_right : List Int) : setCells (cells l) (i * 7) [.int .i64 v_kind, .int .i64 v_a, .int .i64 v_b, .int .i64 v_place, .int .i64 v_side, slc v_left, slc v_right] = cells (l.set i (Entry.mk v_kind v_a v_b v_place v_side v_left v_right)) := cells_set l 7 i rfl (Entry.mk v_kind v_a v_b v_place v_side v_left v_right) h
theorem rep_Entry (n : Nat) : repT n [.int .i64 0, .int .i64 0, .int .i64 0, .int .i64 0, .int .i64 0, .sl 1 [], .sl 1 []] = cells (List.replicate n (Entry.mk 0 0 0 0 0 [] [])) := cells_rep n (Entry.mk 0 0 0 0 0 [] [])
structure Completion where
  order : List Int
  equations : List Equation
  entries : List Entry
  rules : List Int
  waiting : List Int
  rounds : Int
  deriving DecidableEq
instance : Enc Completion := ⟨6, by decide, fun x => [slc x.order, slc x.equations, slc x.entries, slc x.rules, slc x.waiting, .int .i64 x.rounds], fun _ => rfl⟩
@[simp] theorem sz_Completion : Enc.sz Completion = 6 := rfl
theorem enc_Completion (x : Completion) : enc x = [slc x.order, slc x.equations, slc x.entries, slc x.rules, slc x.waiting, .int .i64 x.rounds] := rfl
instance : Sm Completion := ⟨fun n x => sm n x.order ∧ sm n x.equations ∧ sm n x.entries ∧ sm n x.rules ∧ sm n x.waiting, fun h x => ⟨sm_mono h x.1, sm_mono h x.2.1, sm_mono h x.2.2.1, sm_mono h x.2.2.2.1, sm_mono h x.2.2.2.2⟩⟩
theorem set_Completion {l : List Completion} {i : Nat} (h : i < l.length) (v_order : List Int) (v_equations : List Equation) (v_entries : List Entry) (v_rules : List Int) (v_waiting : List Int) (v_rounds : Int) : setCells (cells l) (i * 6) [slc v_order, slc v_equations, slc v_entries, slc v_rules, slc v_waiting, .int .i64 v_rounds] = cells (l.set i (Completion.mk v_order v_equations v_entries v_rules v_waiting v_rounds)) := cells_set l 6 i rfl (Completion.mk v_order v_equations v_entries v_rules v_waiting v_rounds) h
theorem rep_Completion (n : Nat) : repT n [.sl 1 [], .sl 2 [], .sl 7 [], .sl 1 [], .sl 1 [], .int .i64 0] = cells (List.replicate n (Completion.mk [] [] [] [] [] 0)) := cells_rep n (Completion.mk [] [] [] [] [] 0)
structure Theory where
  order : List Int
  equations : List Equation
  rules : List Equation
  deriving DecidableEq
instance : Enc Theory := ⟨3, by decide, fun x => [slc x.order, slc x.equations, slc x.rules], fun _ => rfl⟩
@[simp] theorem sz_Theory : Enc.sz Theory = 3 := rfl
theorem enc_Theory (x : Theory) : enc x = [slc x.order, slc x.equations, slc x.rules] := rfl
instance : Sm Theory := ⟨fun n x => sm n x.order ∧ sm n x.equations ∧ sm n x.rules, fun h x => ⟨sm_mono h x.1, sm_mono h x.2.1, sm_mono h x.2.2⟩⟩
theorem set_Theory {l : List Theory} {i : Nat} (h : i < l.length) (v_order : List Int) (v_equations : List Equation) (v_rules : List Equation) : setCells (cells l) (i * 3) [slc v_order, slc v_equations, slc v_rules] = cells (l.set i (Theory.mk v_order v_equations v_rules)) := cells_set l 3 i rfl (Theory.mk v_order v_equations v_rules) h
theorem rep_Theory (n : Nat) : repT n [.sl 1 [], .sl 2 [], .sl 2 []] = cells (List.replicate n (Theory.mk [] [] [])) := cells_rep n (Theory.mk [] [] [])
structure Put where
  sector : Int
  bytes : List UInt8
  deriving DecidableEq
instance : Enc Put := ⟨2, by decide, fun x => [.int .i64 x.sector, slc x.bytes], fun _ => rfl⟩
@[simp] theorem sz_Put : Enc.sz Put = 2 := rfl
theorem enc_Put (x : Put) : enc x = [.int .i64 x.sector, slc x.bytes] := rfl
instance : Sm Put := ⟨fun n x => sm n x.bytes, fun h x => sm_mono h x⟩
theorem set_Put {l : List Put} {i : Nat} (h : i < l.length) (v_sector : Int) (v_bytes : List UInt8) : setCells (cells l) (i * 2) [.int .i64 v_sector, slc v_bytes] = cells (l.set i (Put.mk v_sector v_bytes)) := cells_set l 2 i rfl (Put.mk v_sector v_bytes) h
theorem rep_Put (n : Nat) : repT n [.int .i64 0, .sl 1 []] = cells (List.replicate n (Put.mk 0 [])) := cells_rep n (Put.mk 0 [])
structure Disk where
  sectors : List (List UInt8)
  pending : List Put
  deriving DecidableEq
instance : Enc Disk := ⟨2, by decide, fun x => [slc x.sectors, slc x.pending], fun _ => rfl⟩
@[simp] theorem sz_Disk : Enc.sz Disk = 2 := rfl
theorem enc_Disk (x : Disk) : enc x = [slc x.sectors, slc x.pending] := rfl
instance : Sm Disk := ⟨fun n x => sm n x.sectors ∧ sm n x.pending, fun h x => ⟨sm_mono h x.1, sm_mono h x.2⟩⟩
theorem set_Disk {l : List Disk} {i : Nat} (h : i < l.length) (v_sectors : List (List UInt8)) (v_pending : List Put) : setCells (cells l) (i * 2) [slc v_sectors, slc v_pending] = cells (l.set i (Disk.mk v_sectors v_pending)) := cells_set l 2 i rfl (Disk.mk v_sectors v_pending) h
theorem rep_Disk (n : Nat) : repT n [.sl 1 [], .sl 2 []] = cells (List.replicate n (Disk.mk [] [])) := cells_rep n (Disk.mk [] [])
structure Act where
  kind : Int
  put : Put
  deriving DecidableEq
instance : Enc Act := ⟨3, by decide, fun x => [.int .i64 x.kind, .int .i64 x.put.sector, slc x.put.bytes], fun _ => rfl⟩
@[simp] theorem sz_Act : Enc.sz Act = 3 := rfl
theorem enc_Act (x : Act) : enc x = [.int .i64 x.kind, .int .i64 x.put.sector, slc x.put.bytes] := rfl
instance : Sm Act := ⟨fun n x => sm n x.put, fun h x => sm_mono h x⟩
theorem set_Act {l : List Act} {i : Nat} (h : i < l.length) (v_kind : Int) (v_put_sector : Int) (v_put_bytes : List UInt8) : setCells (cells l) (i * 3) [.int .i64 v_kind, .int .i64 v_put_sector, slc v_put_bytes] = cells (l.set i (Act.mk v_kind (Put.mk v_put_sector v_put_bytes))) := cells_set l 3 i rfl (Act.mk v_kind (Put.mk v_put_sector v_put_bytes)) h
theorem rep_Act (n : Nat) : repT n [.int .i64 0, .int .i64 0, .sl 1 []] = cells (List.replicate n (Act.mk 0 (Put.mk 0 []))) := cells_rep n (Act.mk 0 (Put.mk 0 []))
structure IntResult where
  code : Int
  value : Int
  deriving DecidableEq
instance : Enc IntResult := ⟨2, by decide, fun x => [.int .i64 x.code, .int .i64 x.value], fun _ => rfl⟩
@[simp] theorem sz_IntResult : Enc.sz IntResult = 2 := rfl
theorem enc_IntResult (x : IntResult) : enc x = [.int .i64 x.code, .int .i64 x.value] := rfl
instance : Sm IntResult := ⟨fun n x => True, fun _ h => h⟩
theorem set_IntResult {l : List IntResult} {i : Nat} (h : i < l.length) (v_code : Int) (v_value : Int) : setCells (cells l) (i * 2) [.int .i64 v_code, .int .i64 v_value] = cells (l.set i (IntResult.mk v_code v_value)) := cells_set l 2 i rfl (IntResult.mk v_code v_value) h
theorem rep_IntResult (n : Nat) : repT n [.int .i64 0, .int .i64 0] = cells (List.replicate n (IntResult.mk 0 0)) := cells_rep n (IntResult.mk 0 0)
structure IntsResult where
  code : Int
  list : List Int
  deriving DecidableEq
instance : Enc IntsResult := ⟨2, by decide, fun x => [.int .i64 x.code, slc x.list], fun _ => rfl⟩
@[simp] theorem sz_IntsResult : Enc.sz IntsResult = 2 := rfl
theorem enc_IntsResult (x : IntsResult) : enc x = [.int .i64 x.code, slc x.list] := rfl
instance : Sm IntsResult := ⟨fun n x => sm n x.list, fun h x => sm_mono h x⟩
theorem set_IntsResult {l : List IntsResult} {i : Nat} (h : i < l.length) (v_code : Int) (v_list : List Int) : setCells (cells l) (i * 2) [.int .i64 v_code, slc v_list] = cells (l.set i (IntsResult.mk v_code v_list)) := cells_set l 2 i rfl (IntsResult.mk v_code v_list) h
theorem rep_IntsResult (n : Nat) : repT n [.int .i64 0, .sl 1 []] = cells (List.replicate n (IntsResult.mk 0 [])) := cells_rep n (IntsResult.mk 0 [])
structure BytesResult where
  code : Int
  bytes : List UInt8
  deriving DecidableEq
instance : Enc BytesResult := ⟨2, by decide, fun x => [.int .i64 x.code, slc x.bytes], fun _ => rfl⟩
@[simp] theorem sz_BytesResult : Enc.sz BytesResult = 2 := rfl
theorem enc_BytesResult (x : BytesResult) : enc x = [.int .i64 x.code, slc x.bytes] := rfl
instance : Sm BytesResult := ⟨fun n x => sm n x.bytes, fun h x => sm_mono h x⟩
theorem set_BytesResult {l : List BytesResult} {i : Nat} (h : i < l.length) (v_code : Int) (v_bytes : List UInt8) : setCells (cells l) (i * 2) [.int .i64 v_code, slc v_bytes] = cells (l.set i (BytesResult.mk v_code v_bytes)) := cells_set l 2 i rfl (BytesResult.mk v_code v_bytes) h
theorem rep_BytesResult (n : Nat) : repT n [.int .i64 0, .sl 1 []] = cells (List.replicate n (BytesResult.mk 0 [])) := cells_rep n (BytesResult.mk 0 [])
structure TextResult where
  code : Int
  text : ByteArray
  deriving DecidableEq
instance : Enc TextResult := ⟨2, by decide, fun x => [.int .i64 x.code, .str x.text], fun _ => rfl⟩
@[simp] theorem sz_TextResult : Enc.sz TextResult = 2 := rfl
theorem enc_TextResult (x : TextResult) : enc x = [.int .i64 x.code, .str x.text] := rfl
instance : Sm TextResult := ⟨fun n x => sm n x.text, fun h x => sm_mono h x⟩
theorem set_TextResult {l : List TextResult} {i : Nat} (h : i < l.length) (v_code : Int) (v_text : ByteArray) : setCells (cells l) (i * 2) [.int .i64 v_code, .str v_text] = cells (l.set i (TextResult.mk v_code v_text)) := cells_set l 2 i rfl (TextResult.mk v_code v_text) h
theorem rep_TextResult (n : Nat) : repT n [.int .i64 0, .str (ByteArray.mk #[])] = cells (List.replicate n (TextResult.mk 0 (ByteArray.mk #[]))) := cells_rep n (TextResult.mk 0 (ByteArray.mk #[]))
structure SignatureResult where
  code : Int
  signature : Signature
  deriving DecidableEq
instance : Enc SignatureResult := ⟨2, by decide, fun x => [.int .i64 x.code, slc x.signature.symbols], fun _ => rfl⟩
@[simp] theorem sz_SignatureResult : Enc.sz SignatureResult = 2 := rfl
theorem enc_SignatureResult (x : SignatureResult) : enc x = [.int .i64 x.code, slc x.signature.symbols] := rfl
instance : Sm SignatureResult := ⟨fun n x => sm n x.signature, fun h x => sm_mono h x⟩
theorem set_SignatureResult {l : List SignatureResult} {i : Nat} (h : i < l.length) (v_code : Int) (v_signature_symbols : List Symbol) : setCells (cells l) (i * 2) [.int .i64 v_code, slc v_signature_symbols] = cells (l.set i (SignatureResult.mk v_code (Signature.mk v_signature_symbols))) := cells_set l 2 i rfl (SignatureResult.mk v_code (Signature.mk v_signature_symbols)) h
theorem rep_SignatureResult (n : Nat) : repT n [.int .i64 0, .sl 2 []] = cells (List.replicate n (SignatureResult.mk 0 (Signature.mk []))) := cells_rep n (SignatureResult.mk 0 (Signature.mk []))
structure TermResult where
  code : Int
  term : List Int
  deriving DecidableEq
instance : Enc TermResult := ⟨2, by decide, fun x => [.int .i64 x.code, slc x.term], fun _ => rfl⟩
@[simp] theorem sz_TermResult : Enc.sz TermResult = 2 := rfl
theorem enc_TermResult (x : TermResult) : enc x = [.int .i64 x.code, slc x.term] := rfl
instance : Sm TermResult := ⟨fun n x => sm n x.term, fun h x => sm_mono h x⟩
theorem set_TermResult {l : List TermResult} {i : Nat} (h : i < l.length) (v_code : Int) (v_term : List Int) : setCells (cells l) (i * 2) [.int .i64 v_code, slc v_term] = cells (l.set i (TermResult.mk v_code v_term)) := cells_set l 2 i rfl (TermResult.mk v_code v_term) h
theorem rep_TermResult (n : Nat) : repT n [.int .i64 0, .sl 1 []] = cells (List.replicate n (TermResult.mk 0 [])) := cells_rep n (TermResult.mk 0 [])
structure TermsResult where
  code : Int
  terms : List (List Int)
  deriving DecidableEq
instance : Enc TermsResult := ⟨2, by decide, fun x => [.int .i64 x.code, slc x.terms], fun _ => rfl⟩
@[simp] theorem sz_TermsResult : Enc.sz TermsResult = 2 := rfl
theorem enc_TermsResult (x : TermsResult) : enc x = [.int .i64 x.code, slc x.terms] := rfl
instance : Sm TermsResult := ⟨fun n x => sm n x.terms, fun h x => sm_mono h x⟩
theorem set_TermsResult {l : List TermsResult} {i : Nat} (h : i < l.length) (v_code : Int) (v_terms : List (List Int)) : setCells (cells l) (i * 2) [.int .i64 v_code, slc v_terms] = cells (l.set i (TermsResult.mk v_code v_terms)) := cells_set l 2 i rfl (TermsResult.mk v_code v_terms) h
theorem rep_TermsResult (n : Nat) : repT n [.int .i64 0, .sl 1 []] = cells (List.replicate n (TermsResult.mk 0 [])) := cells_rep n (TermsResult.mk 0 [])
structure EquationResult where
  code : Int
  equation : Equation
  deriving DecidableEq
instance : Enc EquationResult := ⟨3, by decide, fun x => [.int .i64 x.code, slc x.equation.left, slc x.equation.right], fun _ => rfl⟩
@[simp] theorem sz_EquationResult : Enc.sz EquationResult = 3 := rfl
theorem enc_EquationResult (x : EquationResult) : enc x = [.int .i64 x.code, slc x.equation.left, slc x.equation.right] := rfl
instance : Sm EquationResult := ⟨fun n x => sm n x.equation, fun h x => sm_mono h x⟩
theorem set_EquationResult {l : List EquationResult} {i : Nat} (h : i < l.length) (v_code : Int) (v_equation_left : List Int) (v_equation_right : List Int) : setCells (cells l) (i * 3) [.int .i64 v_code, slc v_equation_left, slc v_equation_right] = cells (l.set i (EquationResult.mk v_code (Equation.mk v_equation_left v_equation_right))) := cells_set l 3 i rfl (EquationResult.mk v_code (Equation.mk v_equation_left v_equation_right)) h
theorem rep_EquationResult (n : Nat) : repT n [.int .i64 0, .sl 1 [], .sl 1 []] = cells (List.replicate n (EquationResult.mk 0 (Equation.mk [] []))) := cells_rep n (EquationResult.mk 0 (Equation.mk [] []))
structure EquationsResult where
  code : Int
  list : List Equation
  deriving DecidableEq
instance : Enc EquationsResult := ⟨2, by decide, fun x => [.int .i64 x.code, slc x.list], fun _ => rfl⟩
@[simp] theorem sz_EquationsResult : Enc.sz EquationsResult = 2 := rfl
theorem enc_EquationsResult (x : EquationsResult) : enc x = [.int .i64 x.code, slc x.list] := rfl
instance : Sm EquationsResult := ⟨fun n x => sm n x.list, fun h x => sm_mono h x⟩
theorem set_EquationsResult {l : List EquationsResult} {i : Nat} (h : i < l.length) (v_code : Int) (v_list : List Equation) : setCells (cells l) (i * 2) [.int .i64 v_code, slc v_list] = cells (l.set i (EquationsResult.mk v_code v_list)) := cells_set l 2 i rfl (EquationsResult.mk v_code v_list) h
theorem rep_EquationsResult (n : Nat) : repT n [.int .i64 0, .sl 2 []] = cells (List.replicate n (EquationsResult.mk 0 [])) := cells_rep n (EquationsResult.mk 0 [])
structure KeyResult where
  code : Int
  normal : List Int
  term : List Int
  deriving DecidableEq
instance : Enc KeyResult := ⟨3, by decide, fun x => [.int .i64 x.code, slc x.normal, slc x.term], fun _ => rfl⟩
@[simp] theorem sz_KeyResult : Enc.sz KeyResult = 3 := rfl
theorem enc_KeyResult (x : KeyResult) : enc x = [.int .i64 x.code, slc x.normal, slc x.term] := rfl
instance : Sm KeyResult := ⟨fun n x => sm n x.normal ∧ sm n x.term, fun h x => ⟨sm_mono h x.1, sm_mono h x.2⟩⟩
theorem set_KeyResult {l : List KeyResult} {i : Nat} (h : i < l.length) (v_code : Int) (v_normal : List Int) (v_term : List Int) : setCells (cells l) (i * 3) [.int .i64 v_code, slc v_normal, slc v_term] = cells (l.set i (KeyResult.mk v_code v_normal v_term)) := cells_set l 3 i rfl (KeyResult.mk v_code v_normal v_term) h
theorem rep_KeyResult (n : Nat) : repT n [.int .i64 0, .sl 1 [], .sl 1 []] = cells (List.replicate n (KeyResult.mk 0 [] [])) := cells_rep n (KeyResult.mk 0 [] [])
structure BindingResult where
  code : Int
  binding : Binding
  deriving DecidableEq
instance : Enc BindingResult := ⟨3, by decide, fun x => [.int .i64 x.code, slc x.binding.vars, slc x.binding.terms], fun _ => rfl⟩
@[simp] theorem sz_BindingResult : Enc.sz BindingResult = 3 := rfl
theorem enc_BindingResult (x : BindingResult) : enc x = [.int .i64 x.code, slc x.binding.vars, slc x.binding.terms] := rfl
instance : Sm BindingResult := ⟨fun n x => sm n x.binding, fun h x => sm_mono h x⟩
theorem set_BindingResult {l : List BindingResult} {i : Nat} (h : i < l.length) (v_code : Int) (v_binding_vars : List Int) (v_binding_terms : List (List Int)) : setCells (cells l) (i * 3) [.int .i64 v_code, slc v_binding_vars, slc v_binding_terms] = cells (l.set i (BindingResult.mk v_code (Binding.mk v_binding_vars v_binding_terms))) := cells_set l 3 i rfl (BindingResult.mk v_code (Binding.mk v_binding_vars v_binding_terms)) h
theorem rep_BindingResult (n : Nat) : repT n [.int .i64 0, .sl 1 [], .sl 1 []] = cells (List.replicate n (BindingResult.mk 0 (Binding.mk [] []))) := cells_rep n (BindingResult.mk 0 (Binding.mk [] []))
structure RedexResult where
  code : Int
  place : Int
  rule : Int
  deriving DecidableEq
instance : Enc RedexResult := ⟨3, by decide, fun x => [.int .i64 x.code, .int .i64 x.place, .int .i64 x.rule], fun _ => rfl⟩
@[simp] theorem sz_RedexResult : Enc.sz RedexResult = 3 := rfl
theorem enc_RedexResult (x : RedexResult) : enc x = [.int .i64 x.code, .int .i64 x.place, .int .i64 x.rule] := rfl
instance : Sm RedexResult := ⟨fun n x => True, fun _ h => h⟩
theorem set_RedexResult {l : List RedexResult} {i : Nat} (h : i < l.length) (v_code : Int) (v_place : Int) (v_rule : Int) : setCells (cells l) (i * 3) [.int .i64 v_code, .int .i64 v_place, .int .i64 v_rule] = cells (l.set i (RedexResult.mk v_code v_place v_rule)) := cells_set l 3 i rfl (RedexResult.mk v_code v_place v_rule) h
theorem rep_RedexResult (n : Nat) : repT n [.int .i64 0, .int .i64 0, .int .i64 0] = cells (List.replicate n (RedexResult.mk 0 0 0)) := cells_rep n (RedexResult.mk 0 0 0)
structure NormalResult where
  code : Int
  term : List Int
  steps : Int
  deriving DecidableEq
instance : Enc NormalResult := ⟨3, by decide, fun x => [.int .i64 x.code, slc x.term, .int .i64 x.steps], fun _ => rfl⟩
@[simp] theorem sz_NormalResult : Enc.sz NormalResult = 3 := rfl
theorem enc_NormalResult (x : NormalResult) : enc x = [.int .i64 x.code, slc x.term, .int .i64 x.steps] := rfl
instance : Sm NormalResult := ⟨fun n x => sm n x.term, fun h x => sm_mono h x⟩
theorem set_NormalResult {l : List NormalResult} {i : Nat} (h : i < l.length) (v_code : Int) (v_term : List Int) (v_steps : Int) : setCells (cells l) (i * 3) [.int .i64 v_code, slc v_term, .int .i64 v_steps] = cells (l.set i (NormalResult.mk v_code v_term v_steps)) := cells_set l 3 i rfl (NormalResult.mk v_code v_term v_steps) h
theorem rep_NormalResult (n : Nat) : repT n [.int .i64 0, .sl 1 [], .int .i64 0] = cells (List.replicate n (NormalResult.mk 0 [] 0)) := cells_rep n (NormalResult.mk 0 [] 0)
structure AlgebraResult where
  code : Int
  algebra : Algebra
  deriving DecidableEq
instance : Enc AlgebraResult := ⟨3, by decide, fun x => [.int .i64 x.code, .int .i64 x.algebra.size, slc x.algebra.tables], fun _ => rfl⟩
@[simp] theorem sz_AlgebraResult : Enc.sz AlgebraResult = 3 := rfl
theorem enc_AlgebraResult (x : AlgebraResult) : enc x = [.int .i64 x.code, .int .i64 x.algebra.size, slc x.algebra.tables] := rfl
instance : Sm AlgebraResult := ⟨fun n x => sm n x.algebra, fun h x => sm_mono h x⟩
theorem set_AlgebraResult {l : List AlgebraResult} {i : Nat} (h : i < l.length) (v_code : Int) (v_algebra_size : Int) (v_algebra_tables : List (List Int)) : setCells (cells l) (i * 3) [.int .i64 v_code, .int .i64 v_algebra_size, slc v_algebra_tables] = cells (l.set i (AlgebraResult.mk v_code (Algebra.mk v_algebra_size v_algebra_tables))) := cells_set l 3 i rfl (AlgebraResult.mk v_code (Algebra.mk v_algebra_size v_algebra_tables)) h
theorem rep_AlgebraResult (n : Nat) : repT n [.int .i64 0, .int .i64 0, .sl 1 []] = cells (List.replicate n (AlgebraResult.mk 0 (Algebra.mk 0 []))) := cells_rep n (AlgebraResult.mk 0 (Algebra.mk 0 []))
structure EntryResult where
  code : Int
  entry : Entry
  deriving DecidableEq
instance : Enc EntryResult := ⟨8, by decide, fun x => [.int .i64 x.code, .int .i64 x.entry.kind, .int .i64 x.entry.a, .int .i64 x.entry.b, .int .i64 x.entry.place, .int .i64 x.entry.side, slc x.entry.left, slc x.entry.right], fun _ => rfl⟩
@[simp] theorem sz_EntryResult : Enc.sz EntryResult = 8 := rfl
theorem enc_EntryResult (x : EntryResult) : enc x = [.int .i64 x.code, .int .i64 x.entry.kind, .int .i64 x.entry.a, .int .i64 x.entry.b, .int .i64 x.entry.place, .int .i64 x.entry.side, slc x.entry.left, slc x.entry.right] := rfl
instance : Sm EntryResult := ⟨fun n x => sm n x.entry, fun h x => sm_mono h x⟩
theorem set_EntryResult {l : List EntryResult} {i : Nat} (h : i < l.length) (v_code : Int) (v_entry_kind : Int) (v_entry_a : Int) (v_entry_b : Int) (v_entry_place : Int) (v_entry_side : Int) (v_entry_left : List Int) (v_entry_right : List Int) : setCells (cells l) (i * 8) [.int .i64 v_code, .int .i64 v_entry_kind, .int .i64 v_entry_a, .int .i64 v_entry_b, .int .i64 v_entry_place, .int .i64 v_entry_side, slc v_entry_left, slc v_entry_right] = cells (l.set i (EntryResult.mk v_code (Entry.mk v_entry_kind v_entry_a v_entry_b v_entry_place v_entry_side v_entry_left v_entry_right))) := cells_set l 8 i rfl (EntryResult.mk v_code (Entry.mk v_entry_kind v_entry_a v_entry_b v_entry_place v_entry_side v_entry_left v_entry_right)) h
theorem rep_EntryResult (n : Nat) : repT n [.int .i64 0, .int .i64 0, .int .i64 0, .int .i64 0, .int .i64 0, .int .i64 0, .sl 1 [], .sl 1 []] = cells (List.replicate n (EntryResult.mk 0 (Entry.mk 0 0 0 0 0 [] []))) := cells_rep n (EntryResult.mk 0 (Entry.mk 0 0 0 0 0 [] []))
structure CompletionResult where
  code : Int
  completion : Completion
  deriving DecidableEq
instance : Enc CompletionResult := ⟨7, by decide, fun x => [.int .i64 x.code, slc x.completion.order, slc x.completion.equations, slc x.completion.entries, slc x.completion.rules, slc x.completion.waiting, .int .i64 x.completion.rounds], fun _ => rfl⟩
@[simp] theorem sz_CompletionResult : Enc.sz CompletionResult = 7 := rfl
theorem enc_CompletionResult (x : CompletionResult) : enc x = [.int .i64 x.code, slc x.completion.order, slc x.completion.equations, slc x.completion.entries, slc x.completion.rules, slc x.completion.waiting, .int .i64 x.completion.rounds] := rfl
instance : Sm CompletionResult := ⟨fun n x => sm n x.completion, fun h x => sm_mono h x⟩
theorem set_CompletionResult {l : List CompletionResult} {i : Nat} (h : i < l.length) (v_code : Int) (v_completion_order : List Int) (v_completion_equations : List Equation) (v_completion_entries : List Entry) (v_completion_rules : List Int) (v_completion_waiting : List Int) (v_completion_rounds : Int) : setCells (cells l) (i * 7) [.int .i64 v_code, slc v_completion_order, slc v_completion_equations, slc v_completion_entries, slc v_completion_rules, slc v_completion_waiting, .int .i64 v_completion_rounds] = cells (l.set i (CompletionResult.mk v_code (Completion.mk v_completion_order v_completion_equations v_completion_entries v_completion_rules v_completion_waiting v_completion_rounds))) := cells_set l 7 i rfl (CompletionResult.mk v_code (Completion.mk v_completion_order v_completion_equations v_completion_entries v_completion_rules v_completion_waiting v_completion_rounds)) h
theorem rep_CompletionResult (n : Nat) : repT n [.int .i64 0, .sl 1 [], .sl 2 [], .sl 7 [], .sl 1 [], .sl 1 [], .int .i64 0] = cells (List.replicate n (CompletionResult.mk 0 (Completion.mk [] [] [] [] [] 0))) := cells_rep n (CompletionResult.mk 0 (Completion.mk [] [] [] [] [] 0))
structure TheoryResult where
  code : Int
  theory : Theory
  deriving DecidableEq
instance : Enc TheoryResult := ⟨4, by decide, fun x => [.int .i64 x.code, slc x.theory.order, slc x.theory.equations, slc x.theory.rules], fun _ => rfl⟩
@[simp] theorem sz_TheoryResult : Enc.sz TheoryResult = 4 := rfl
theorem enc_TheoryResult (x : TheoryResult) : enc x = [.int .i64 x.code, slc x.theory.order, slc x.theory.equations, slc x.theory.rules] := rfl
instance : Sm TheoryResult := ⟨fun n x => sm n x.theory, fun h x => sm_mono h x⟩
theorem set_TheoryResult {l : List TheoryResult} {i : Nat} (h : i < l.length) (v_code : Int) (v_theory_order : List Int) (v_theory_equations : List Equation) (v_theory_rules : List Equation) : setCells (cells l) (i * 4) [.int .i64 v_code, slc v_theory_order, slc v_theory_equations, slc v_theory_rules] = cells (l.set i (TheoryResult.mk v_code (Theory.mk v_theory_order v_theory_equations v_theory_rules))) := cells_set l 4 i rfl (TheoryResult.mk v_code (Theory.mk v_theory_order v_theory_equations v_theory_rules)) h
theorem rep_TheoryResult (n : Nat) : repT n [.int .i64 0, .sl 1 [], .sl 2 [], .sl 2 []] = cells (List.replicate n (TheoryResult.mk 0 (Theory.mk [] [] []))) := cells_rep n (TheoryResult.mk 0 (Theory.mk [] [] []))
structure DiskResult where
  code : Int
  disk : Disk
  deriving DecidableEq
instance : Enc DiskResult := ⟨3, by decide, fun x => [.int .i64 x.code, slc x.disk.sectors, slc x.disk.pending], fun _ => rfl⟩
@[simp] theorem sz_DiskResult : Enc.sz DiskResult = 3 := rfl
theorem enc_DiskResult (x : DiskResult) : enc x = [.int .i64 x.code, slc x.disk.sectors, slc x.disk.pending] := rfl
instance : Sm DiskResult := ⟨fun n x => sm n x.disk, fun h x => sm_mono h x⟩
theorem set_DiskResult {l : List DiskResult} {i : Nat} (h : i < l.length) (v_code : Int) (v_disk_sectors : List (List UInt8)) (v_disk_pending : List Put) : setCells (cells l) (i * 3) [.int .i64 v_code, slc v_disk_sectors, slc v_disk_pending] = cells (l.set i (DiskResult.mk v_code (Disk.mk v_disk_sectors v_disk_pending))) := cells_set l 3 i rfl (DiskResult.mk v_code (Disk.mk v_disk_sectors v_disk_pending)) h
theorem rep_DiskResult (n : Nat) : repT n [.int .i64 0, .sl 1 [], .sl 2 []] = cells (List.replicate n (DiskResult.mk 0 (Disk.mk [] []))) := cells_rep n (DiskResult.mk 0 (Disk.mk [] []))
end Ev.Ty
