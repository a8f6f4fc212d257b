/- The abstract code is the code of the program: each function is checked. -/
import Derived.Test.YtebmnnbjfjadaaaGreatDoorCode4
import Derived.Test.YtebmnnbjfjadaaaGreatDoorProg
import Derived.KernelRfl
namespace Go.Ab
set_option maxRecDepth 100000
theorem k274 : chkFn Go.Proofs.Tryz.prog 1 274 c274 = true := by kernel_rfl
theorem k275 : chkFn Go.Proofs.Tryz.prog 1 275 c275 = true := by kernel_rfl
theorem k276 : chkFn Go.Proofs.Tryz.prog 1 276 c276 = true := by kernel_rfl
theorem k277 : chkFn Go.Proofs.Tryz.prog 1 277 c277 = true := by kernel_rfl
theorem k278 : chkFn Go.Proofs.Tryz.prog 1 278 c278 = true := by kernel_rfl
theorem k281 : chkFn Go.Proofs.Tryz.prog 1 281 c281 = true := by kernel_rfl
theorem k282 : chkFn Go.Proofs.Tryz.prog 1 282 c282 = true := by kernel_rfl
theorem k283 : chkFn Go.Proofs.Tryz.prog 1 283 c283 = true := by kernel_rfl
theorem k284 : chkFn Go.Proofs.Tryz.prog 1 284 c284 = true := by kernel_rfl
theorem k285 : chkFn Go.Proofs.Tryz.prog 1 285 c285 = true := by kernel_rfl
theorem k286 : chkFn Go.Proofs.Tryz.prog 1 286 c286 = true := by kernel_rfl
theorem k287 : chkFn Go.Proofs.Tryz.prog 1 287 c287 = true := by kernel_rfl
theorem k288 : chkFn Go.Proofs.Tryz.prog 1 288 c288 = true := by kernel_rfl
theorem k289 : chkFn Go.Proofs.Tryz.prog 1 289 c289 = true := by kernel_rfl
theorem k290 : chkFn Go.Proofs.Tryz.prog 1 290 c290 = true := by kernel_rfl
theorem k291 : chkFn Go.Proofs.Tryz.prog 1 291 c291 = true := by kernel_rfl
theorem k292 : chkFn Go.Proofs.Tryz.prog 1 292 c292 = true := by kernel_rfl
theorem k293 : chkFn Go.Proofs.Tryz.prog 1 293 c293 = true := by kernel_rfl
theorem k294 : chkFn Go.Proofs.Tryz.prog 1 294 c294 = true := by kernel_rfl
theorem k295 : chkFn Go.Proofs.Tryz.prog 1 295 c295 = true := by kernel_rfl
theorem k296 : chkFn Go.Proofs.Tryz.prog 1 296 c296 = true := by kernel_rfl
theorem k297 : chkFn Go.Proofs.Tryz.prog 1 297 c297 = true := by kernel_rfl
theorem k298 : chkFn Go.Proofs.Tryz.prog 1 298 c298 = true := by kernel_rfl
theorem k299 : chkFn Go.Proofs.Tryz.prog 1 299 c299 = true := by kernel_rfl
theorem k300 : chkFn Go.Proofs.Tryz.prog 1 300 c300 = true := by kernel_rfl
theorem k301 : chkFn Go.Proofs.Tryz.prog 1 301 c301 = true := by kernel_rfl
theorem k302 : chkFn Go.Proofs.Tryz.prog 1 302 c302 = true := by kernel_rfl
theorem k303 : chkFn Go.Proofs.Tryz.prog 1 303 c303 = true := by kernel_rfl
theorem k304 : chkFn Go.Proofs.Tryz.prog 1 304 c304 = true := by kernel_rfl
theorem k305 : chkFn Go.Proofs.Tryz.prog 1 305 c305 = true := by kernel_rfl
theorem k306 : chkFn Go.Proofs.Tryz.prog 1 306 c306 = true := by kernel_rfl
theorem k307 : chkFn Go.Proofs.Tryz.prog 1 307 c307 = true := by kernel_rfl
theorem k308 : chkFn Go.Proofs.Tryz.prog 1 308 c308 = true := by kernel_rfl
theorem k309 : chkFn Go.Proofs.Tryz.prog 1 309 c309 = true := by kernel_rfl
theorem k310 : chkFn Go.Proofs.Tryz.prog 1 310 c310 = true := by kernel_rfl
theorem k311 : chkFn Go.Proofs.Tryz.prog 1 311 c311 = true := by kernel_rfl
theorem k312 : chkFn Go.Proofs.Tryz.prog 1 312 c312 = true := by kernel_rfl
theorem k313 : chkFn Go.Proofs.Tryz.prog 1 313 c313 = true := by kernel_rfl
theorem k314 : chkFn Go.Proofs.Tryz.prog 1 314 c314 = true := by kernel_rfl
theorem k315 : chkFn Go.Proofs.Tryz.prog 1 315 c315 = true := by kernel_rfl
theorem k316 : chkFn Go.Proofs.Tryz.prog 1 316 c316 = true := by kernel_rfl
theorem k317 : chkFn Go.Proofs.Tryz.prog 1 317 c317 = true := by kernel_rfl
theorem k318 : chkFn Go.Proofs.Tryz.prog 1 318 c318 = true := by kernel_rfl
theorem k319 : chkFn Go.Proofs.Tryz.prog 1 319 c319 = true := by kernel_rfl
theorem k320 : chkFn Go.Proofs.Tryz.prog 1 320 c320 = true := by kernel_rfl
theorem k321 : chkFn Go.Proofs.Tryz.prog 1 321 c321 = true := by kernel_rfl
theorem k322 : chkFn Go.Proofs.Tryz.prog 1 322 c322 = true := by kernel_rfl
theorem k323 : chkFn Go.Proofs.Tryz.prog 1 323 c323 = true := by kernel_rfl
theorem k324 : chkFn Go.Proofs.Tryz.prog 1 324 c324 = true := by kernel_rfl
theorem k325 : chkFn Go.Proofs.Tryz.prog 1 325 c325 = true := by kernel_rfl
theorem k326 : chkFn Go.Proofs.Tryz.prog 1 326 c326 = true := by kernel_rfl
theorem k327 : chkFn Go.Proofs.Tryz.prog 1 327 c327 = true := by kernel_rfl
end Go.Ab
